/- Part TxAN of the proofs about the benches of the accordion maker: see the last text of the claim for what is proved. -/
import Derived.Test.YtggilmnhgjofiaaGreatTxAM
set_option linter.unusedVariables false
set_option linter.unusedSimpArgs false
set_option linter.unnecessarySimpa false
set_option linter.constructorNameAsVariable false

namespace Go.Abs
open Go
def Zwi (ρ : Nat -> Nat) (eb : List (Nat × D)) : List (Nat × D) -> Prop
 | [] => True
 | (t, d) :: r => Z1c eb t = some (renD ρ d) /\ Zwi ρ eb r
theorem Zk2 {ρ : Nat -> Nat} {eb : List (Nat × D)} : ∀ {ea : List (Nat × D)}, Zwi ρ eb ea -> ∀ t d, Z1c ea t = some d -> Z1c eb t = some (renD ρ d)
 | [], _, t, d, h => by cases h
 | (t0, d0) :: r, h, t, d, hg => by
  simp only [Z1c] at hg
  split at hg
  ·rename_i e; subst e; cases hg; exact h.1
  ·exact Zk2 h.2 t d hg
structure View (m : Nat) (ix : List Nat) (a b : St) : Prop where
 nd : ix.Nodup
 pre : ∀ i, i < m -> Z9f ix i = some i
 blk : Z62 (rho ix b.H.length) b.H ix a.H
 env : Zwi (rho ix b.H.length) b.env a.env
 nt : a.nt = b.nt
 dfs : b.dfs = Zuf (rho ix b.H.length) a.dfs
section
variable {P : Program} {T : TT} {r : Option Nat} {m : Nat} {Q : AX -> St -> Prop} {F : Fz} {μ : Mu} {w : World}
theorem View.rl {ix : List Nat} {a b : St} {act : Act} (hv : View m ix a b) (h : RL m F μ b act w) : RL m F (μ.ren (rho ix b.H.length)) a act w /\ Post F μ b.H w F (μ.ren (rho ix b.H.length)) a.H w /\ Kp m μ b.H (μ.ren (rho ix b.H.length)) a.H := by
 have hl : Lent b.H ix a.H := ⟨hv.nd, (Z11 hv.blk).1, (Z11 hv.blk).2, Zab (Z11 hv.blk).1 (Z11 hv.blk).2 h.hr⟩;refine ⟨⟨Zac hl h.hr, ⟨fun t d ht => ?_, by rw [hv.nt]; exact h.er.nt, ?_⟩, ?_⟩, ⟨fun _ _ _ e => e, fun _ _ _ e => .inl e, Nat.le_refl _, rfl, rfl, rfl, fun b' _ ho => ⟨rfl, fun ho' => ho (hl.own_up ho')⟩⟩, hl.kp hv.pre⟩
 ·obtain ⟨v, h1, h2⟩ := h.er.env t _ (Zk2 hv.env t d ht);exact ⟨v, h1, Z2x h2 d rfl⟩
 ·have := h.er.dfs;rw [hv.dfs] at this;exact hl.adr this
 ·rw [hl.len]
  apply Nat.le_of_not_lt; intro hlt
  have := hv.pre _ hlt;rw [Z8i] at this;simp at this
theorem Zr7 {c : Code} {a b : St} {ix : List Nat} (hv : View m ix a b) (h : WpA P r m c Q a) : WpA P r m c Q b :=
 ⟨fun F μ act w h1 => by
  obtain ⟨g1, g2, g3⟩ := hv.rl h1
  exact Z1us (h.out F _ act w g1) fun _ _ _ hp => hp.trans g2 g3⟩
theorem Zgw {c : Code} {s : St} {α : Type} (mk : α -> St) (ms : α -> Nat) (Pr : α -> Prop) (x0 : α) (h0 : Pr x0) (ix0 : List Nat) (v0 : View m ix0 (mk x0) s)
  (round : ∀ x, Pr x -> WpA P r m c (Zb1 (fun s' => ∃ y ix, Pr y /\ ms y < ms x /\ View m ix (mk y) s') Q) (mk x)) : WpA P r m (.loop c) Q s := by
 let J : Nat -> St -> Prop := fun n s' => ∃ x ix, Pr x /\ View m ix (mk x) s' /\ ms x = n
 let lo : St -> Nat := fun s' => Classical.epsilon fun n => J n s' /\ ∀ k, J k s' -> n <= k
 have hlo : ∀ s', (∃ n, J n s') -> J (lo s') s' /\ ∀ k, J k s' -> lo s' <= k := fun s' h => Classical.epsilon_spec (Za7 h);refine Zjh (fun s' => ∃ n, J n s') lo ⟨_, x0, ix0, h0, v0, rfl⟩ fun s' hI => ?_;obtain ⟨⟨x, ix, hx, hv, hms⟩, -⟩ := hlo s' hI;refine Zr7 hv (Z94 (round x hx) fun a s2 hq => ?_)
 cases a with
 | normal =>
  obtain ⟨y, iy, hy, hlt, hvy⟩ := hq;have hJ : J (ms y) s2 := ⟨y, iy, hy, hvy, rfl⟩;exact ⟨⟨_, hJ⟩, by have := (hlo s2 ⟨_, hJ⟩).2 _ hJ; omega⟩
 | _ => exact hq
theorem Zr8 (hT : TOK P T) {A : Ar} (hA : A = ar) {f : FuncId} {fn : Func} {c : Code} (hf : P.funcs[f]? = some fn) (hb : fn.body = some c) (hnm : (fn.name == "runtime.NumGoroutine") = false) {as : List D} {H : List Blk} {Q : RA -> List Blk -> Prop} (hnt : Nat.ble as.length fn.ntmps = true) {rs : List ResultVar} (hrs : fn.results.toList = rs) {nt : Nat} (hnt2 : fn.ntmps = nt)
  (h : ∀ S, S = Zo P none H.length -> vcC A T S c (Znx A T rs Q) { env := Zd6 0 as, H := H, nt := nt, dfs := [] }) : CallA P f as H Q := by
 subst hA; subst hrs; subst hnt2;exact Zfb hT hf hb hnm hnt (Z4a hT c _ _ (h _ rfl))
theorem Zi (hT : TOK P T) {A : Ar} (hA : A = ar) {S : Stop} (hS : S = Zo P r m) {c : Code} {s : St} (h : vcC A T S c Q s) : WpA P r m c Q s := by
 subst hA; subst hS; exact Z4a hT c _ _ h
theorem Z3 (hT : TOK P T) {A : Ar} (hA : A = ar) {S : Stop} (hS : S = Zo P r m) {ops : Array Oper} {l : List Nat} {s : St}
  (h : Z4h A T ops (fun l s => match l with | [] => Q .normal s | i :: l => S.ops ops Q (i :: l) s) l s) : OpsA P r m ops Q l s := by
 subst hA; subst hS;refine Z3v hT (fun l s hk => ?_) _ _ h
 cases l with
 | nil => exact Zf6 hk
 | cons i l => exact hk
theorem Zb {S : Stop} (hS : S = Zo P r m) {c : Code} {s : St} (h : WpA P r m c Q s) : S.code c Q s := by subst hS; exact h
theorem Zii {S : Stop} (hS : S = Zo P r m) {ops : Array Oper} {l : List Nat} {s : St} (h : OpsA P r m ops Q l s) : S.ops ops Q l s := by subst hS; exact h
theorem Z4 {S : Stop} (hS : S = Zo P r m) {ops : Array Oper} {i : Nat} {l : List Nat} {o : Oper} {s : St} {c : Call} {fo : Operand} {f : FuncId} {caps as0 : List D} (as' : List D) (ix : List Nat) (Hf : List Blk)
  (hoi : ops[i]? = some o) (hd : Z36 s.nt o.dst = true) (hg : o.guard = none) (ho : o.op = .call c) (hc : c.callee = .value fo) (hfo : evo s.env fo = some (.fn f caps)) (has : Z34 (c.args.toList.map (evo s.env)) = some as0)
  (hren : renL (rho ix s.H.length) as' = as0 ++ caps) (hnd : ix.Nodup) (hl : Z62 (rho ix s.H.length) s.H ix Hf)
  (h : CallA P f as' Hf (fun x Hf' => match x with | .ret d => OpsA P r m ops Q l (s.step o.dst (renD (rho ix s.H.length) d) (Z10 s.H ix Hf') s.dfs) | .pan _ => False)) : S.ops ops Q (i :: l) s := by
 subst hS;refine Z3k hoi hd ?_;simp only [Zh, hg];refine Z7t ho hc hfo has hren hnd hl ⟨h.fn, fun F μ vs w h1 h2 h3 => Z1vt.mono (h.out F μ vs w h1 h2 h3) fun e w' he => ?_⟩
 cases e with
 | returned v => exact he
 | panicked ch => obtain ⟨_, _, _, _, _, _, _, _, hf⟩ := he; exact hf.elim
 | outgrown => exact he.elim
end
end Go.Abs

namespace Go.Abs
open Go
def zsB (P : Program) (t : TypeId) : Bool :=
 match P.info? t with
 | some i => (match i.zero with | some z => z.cells.size == i.size && z.cells.all (·.oneCell') | none => true)
 | none => true
def Zwj (P : Program) : List (Nat × TE) -> Prop
 | [] => True
 | (t, e) :: r => (Z3c P t = some e /\ zsB P t = true) /\ Zwj P r
theorem Zfe {P : Program} : ∀ {T : List (Nat × TE)}, Zwj P T -> ∀ t e, lkp T t = some e -> Z3c P t = some e /\ zsB P t = true
 | [], _, t, e, h => by cases h
 | (t0, e0) :: r, hT, t, e, h => by
  simp only [lkp] at h
  split at h
  ·rename_i e1; obtain rfl := Nat.eq_of_beq_eq_true e1; cases h; exact hT.1
  ·exact Zfe hT.2 t e h
theorem Zwk {P : Program} {T : TT} {L : List (Nat × TE)} (hL : ∀ n, T n = lkp L n) (h : Zwj P L) (hm : P.follows .mixedOrders = true) : TOK P T := by
 refine ⟨fun t e ht => (Zfe h t e (by rw [<- hL]; exact ht)).1, fun t e ht i z hi hz => ?_, hm⟩;have h2 := (Zfe h t e (by rw [<- hL]; exact ht)).2;simp only [zsB, hi, hz, Bool.and_eq_true, beq_iff_eq] at h2;refine ⟨h2.1, fun v hv => ?_⟩;obtain ⟨i, hlt, rfl⟩ := Array.mem_iff_getElem.1 hv;exact (Array.all_eq_true.1 h2.2) i hlt
end Go.Abs

namespace Go.Abs
open Go
def Z7a : List Nat -> Nat -> Bool
 | [], _ => false
 | k :: r, n => (match Nat.beq k n with | true => true | false => Z7a r n)
theorem Z3w : ∀ (l : List Nat) (n : Nat), Z7a l n = true ↔ n ∈ l
 | [], n => by simp [Z7a]
 | k :: r, n => by
  simp only [Z7a]
  split
  ·rename_i h; obtain rfl := Nat.eq_of_beq_eq_true h; simp
  ·rename_i h
   have : k ≠ n := fun e => by subst e; rw [Nat.beq_refl] at h; cases h
   rw [Z3w r n]; simp [Ne.symm this]
mutual
def fzG (A : Ar) (H : List Blk) (kk : List Nat) : D -> (D -> Prop) -> Prop
 | .agg cs, K => fzL A H kk cs fun cs' => K (.agg cs')
 | .tup cs, K => fzL A H kk cs fun cs' => K (.tup cs')
 | .fn f cs, K => fzL A H kk cs fun cs' => K (.fn f cs')
 | .ifc t d, K => fzG A H kk d fun d' => K (.ifc t d')
 | .o k sz n, K => (match Z7a kk k with
  | true => (match Z1m H k with | some (.els sz' es) => (match Nat.beq sz sz' with | true => A.eqN n (A.len es) /\ K (.sl sz es) | false => False) | _ => False)
  | false => K (.o k sz n))
 | .b k off, K => (match Z7a kk k with
  | true => (match Z1m H k with | some (.box d) => (match frL d.cells with | true => K (.cb d off) | false => False) | _ => False)
  | false => K (.b k off))
 | .p k sz i off, K => (match Z7a kk k with
  | true => (match Z1m H k with | some (.els sz' es) => (match Nat.beq sz sz' with | true => K (.ip sz es i off) | false => False) | _ => False)
  | false => K (.p k sz i off))
 | d, K => K d
def fzL (A : Ar) (H : List Blk) (kk : List Nat) : List D -> (List D -> Prop) -> Prop
 | [], K => K []
 | d :: r, K => fzG A H kk d fun d' => fzL A H kk r fun r' => K (d' :: r')
end
def fzE (A : Ar) (H : List Blk) (kk : List Nat) : List (Nat × D) -> (List (Nat × D) -> Prop) -> Prop
 | [], K => K []
 | (t, d) :: r, K => fzG A H kk d fun d' => fzE A H kk r fun r' => K ((t, d') :: r')
def fzH (A : Ar) (H : List Blk) (kk : List Nat) : Nat -> List Blk -> (List Blk -> Prop) -> Prop
 | _, [], K => K []
 | j, x :: r, K =>
  match Z7a kk j with
  | true => (match x with | .ob _ => False | _ => fzH A H kk (j + 1) r fun r' => K (.dead :: r'))
  | false => (match x with | .box d => fzG A H kk d fun d' => fzH A H kk (j + 1) r fun r' => K (.box d' :: r') | x => fzH A H kk (j + 1) r fun r' => K (x :: r'))
section
variable {P : Program} {F F' : Fz} {μ : Mu} {w : World} {H : List Blk} {kk : List Nat}
theorem Zk3 {d : D} (h : frD d = true) : ∀ c ∈ d.cells, frD c = true := by
 cases d <;> simp only [D.cells] <;> first
  | (simp only [frD] at h; exact Z30.1 h)
  | (intro c hc; simp at hc; subst hc; exact h)
open Classical in
noncomputable def Z3g (F : Fz) (μ : Mu) (H : List Blk) (w : World) (kk : List Nat) : Fz := ⟨fun b o =>
 match F b o with
 | some v => some v
 | none => if ∃ k m, k ∈ kk /\ (Z17 H k).isSome = true /\ μ k = some (some (b, m)) then w.cell? ⟨b, o, none⟩ else none, trivial⟩
open Classical in
theorem Zbj (F : Fz) (μ : Mu) (H : List Blk) (w : World) (kk : List Nat) (b o : Nat) : Z3g F μ H w kk b o =
 (match F b o with
 | some v => some v
 | none => if ∃ k m, k ∈ kk /\ (Z17 H k).isSome = true /\ μ k = some (some (b, m)) then w.cell? ⟨b, o, none⟩ else none) := rfl
theorem Z2y : ∀ b o v, F b o = some v -> Z3g F μ H w kk b o = some v := fun b o v h => by rw [Zbj, h]
theorem Zbk (h : HR F μ H w) {k b m : Nat} (hk : k ∈ kk) (hb : (Z17 H k).isSome = true) (hμ : μ k = some (some (b, m))) (o : Nat) : Z3g F μ H w kk b o = w.cell? ⟨b, o, none⟩ := by
 rw [Zbj]
 cases hf : F b o with
 | some v => exact absurd ⟨k, (let ⟨_, hy⟩ := Option.isSome_iff_exists.1 hb; Z15 hy), .inl ⟨m, hμ⟩⟩ (h.frz b o v hf).2
 | none => simp only; rw [if_pos ⟨k, m, hk, hb, hμ⟩]
theorem Zff {b o : Nat} {v : Value} (h : Z3g F μ H w kk b o = some v) : F b o = some v ∨ (w.cell? ⟨b, o, none⟩ = some v /\ ∃ k m, k ∈ kk /\ (Z17 H k).isSome = true /\ μ k = some (some (b, m))) := by
 rw [Zbj] at h
 split at h
 ·rename_i v' hv; left; rw [hv]; exact h
 ·split at h
  ·rename_i hc; exact .inr ⟨h, hc⟩
  ·cases h
structure FzR (F : Fz) (μ : Mu) (H : List Blk) (w : World) (kk : List Nat) (d d' : D) : Prop where
 len : d'.cells.length = d.cells.length
 val : ∀ v, VR F μ d v -> VR (Z3g F μ H w kk) μ d' v
 cel : ∀ (r : Nat) (c' : D), d'.cells[r]? = some c' -> ∃ c, d.cells[r]? = some c /\ ∀ v, VR F μ c v -> VR (Z3g F μ H w kk) μ c' v
theorem FzR.one {d d' : D} (h1 : d.cells = [d]) (h2 : d'.cells = [d']) (h3 : ∀ v, VR F μ d v -> VR (Z3g F μ H w kk) μ d' v) : FzR F μ H w kk d d' :=
 ⟨by rw [h1, h2]; rfl, h3, fun r c' hc => by
  rw [h2] at hc
  match r, hc with
  | 0, hc => simp at hc; subst hc; exact ⟨d, by rw [h1]; rfl, h3⟩
  | r + 1, hc => simp at hc⟩
theorem FzR.same (d : D) : FzR F μ H w kk d d := ⟨rfl, fun v hv => hv.mono Z2y (fun _ _ e => e), fun r c' hc => ⟨c', hc, fun v hv => hv.mono Z2y (fun _ _ e => e)⟩⟩
mutual
theorem fzG_sound (h : HR F μ H w) : ∀ (d : D) (K : D -> Prop), fzG ar H kk d K -> ∃ d', K d' /\ FzR F μ H w kk d d'
 | .agg cs, K, hk => by
  simp only [fzG] at hk;obtain ⟨cs', h1, h2, h3⟩ := fzL_sound h cs _ hk;refine ⟨_, h1, h2, fun v hv => ?_, h3⟩;obtain ⟨vs, rfl, hl, hr, ho⟩ := hv.agg_inv;exact .agg _ _ (by rw [h2]; exact hl) (fun i c v hc hv => by
   obtain ⟨c0, hc0, hg⟩ := h3 i c hc
   exact hg v (hr i c0 v hc0 hv)) ho
 | .tup cs, K, hk => by
  simp only [fzG] at hk;obtain ⟨cs', h1, h2, h3⟩ := fzL_sound h cs _ hk;refine ⟨_, h1, .one rfl rfl fun v hv => ?_⟩;have : ∃ vs, v = .tuple vs /\ cs.length = vs.size /\ ∀ (i : Nat) (c : D) (v : Value), cs[i]? = some c -> vs[i]? = some v -> VR F μ c v := by
   cases hv with
   | cl _ _ hc => cases hc with | tup _ vs hl hh => exact ⟨vs, rfl, hl, fun i c v h1 h2 => .cl _ _ (hh i c v h1 h2)⟩
   | tup _ vs hl hh => exact ⟨vs, rfl, hl, hh⟩
  obtain ⟨vs, rfl, hl, hr⟩ := this;exact .tup _ _ (by rw [h2]; exact hl) (fun i c v hc hv => by
   obtain ⟨c0, hc0, hg⟩ := h3 i c hc
   exact hg v (hr i c0 v hc0 hv))
 | .fn f cs, K, hk => by
  simp only [fzG] at hk;obtain ⟨cs', h1, h2, h3⟩ := fzL_sound h cs _ hk;refine ⟨_, h1, .one rfl rfl fun v hv => ?_⟩;have : ∃ vs, v = .func (.func f) #[] vs /\ cs.length = vs.size /\ ∀ (i : Nat) (c : D) (v : Value), cs[i]? = some c -> vs[i]? = some v -> VR F μ c v := by
   cases hv with
   | cl _ _ hc => cases hc with | fn _ _ vs hl hh => exact ⟨vs, rfl, hl, fun i c v h1 h2 => .cl _ _ (hh i c v h1 h2)⟩
   | fn _ _ vs hl hh => exact ⟨vs, rfl, hl, hh⟩
  obtain ⟨vs, rfl, hl, hr⟩ := this;exact .fn _ _ _ (by rw [h2]; exact hl) (fun i c v hc hv => by
   obtain ⟨c0, hc0, hg⟩ := h3 i c hc
   exact hg v (hr i c0 v hc0 hv))
 | .ifc t d, K, hk => by
  simp only [fzG] at hk;obtain ⟨d', h1, h2, h3, -⟩ := fzG_sound h d _ hk;refine ⟨_, h1, .one rfl rfl fun v hv => ?_⟩
  cases hv with
  | cl _ _ hc => cases hc with | ifc _ _ v hh => exact .ifc _ _ _ (h3 v (.cl _ _ hh))
  | ifc _ _ v hh => exact .ifc _ _ _ (h3 v hh)
 | .o k sz n, K, hk => by
  simp only [fzG] at hk
  split at hk
  ·rename_i hm
   have hm := (Z3w kk k).1 hm
   split at hk
   ·rename_i sz' es hb
    split at hk
    ·rename_i hsz
     obtain rfl := Nat.eq_of_beq_eq_true hsz;obtain ⟨hn, hk⟩ := hk;have hf : FrL es := h.fr k _ (by rw [<- Z1u]; exact hb) _ _ rfl;have hn : n = es.length := hn;refine ⟨_, hk, .one rfl rfl fun v hv => .cl _ _ ?_⟩
     cases hv with
     | cl _ _ hc => cases hc
     | o _ _ _ b M cap hμ hc hM =>
      have hblk := Z5f hb;have hcells := fun i e he r c hc => h.cells hblk hμ i e he r c hc;rcases h.row k _ _ hblk (by rw [hμ]; simp) with ⟨e1, -⟩ | ⟨_, _, _, _, _, _, _, _, hcr⟩
      ·rw [hμ] at e1; cases e1
      ·subst hn;refine .sl sz es b 0 cap (fun i r => (w.cell? ⟨b, i * sz + r, none⟩).getD undef) hc (fun i e he => (hcr i e he).1) (fun i e r c he hc => ?_) (fun i e r c he hc => ?_)
       ·obtain ⟨v, g1, g2, g3⟩ := hcells i e he r c hc;rw [Nat.zero_add, Zbk h hm (by rw [hblk]; rfl) hμ, g1];exact ⟨rfl, g2⟩
       ·obtain ⟨v, g1, g2, g3⟩ := hcells i e he r c hc;rw [g1];exact (Zgo g3 (Zk3 (hf.out e (List.mem_of_getElem? he)) c (List.mem_of_getElem? hc))).mono Z2y
     | oNil _ _ ad hμ =>
      cases es with
      | nil => exact .slE sz ad 0
      | cons => simp at hn
    ·exact hk.elim
   ·exact hk.elim
  ·exact ⟨_, hk, .same _⟩
 | .b k off, K, hk => by
  simp only [fzG] at hk
  split at hk
  ·rename_i hm
   have hm := (Z3w kk k).1 hm
   split at hk
   ·rename_i d hb
    split at hk
    rotate_left
    ·exact hk.elim
    rename_i hf
    replace hf : FrL d.cells := ⟨Z30.1 hf⟩
    refine ⟨_, hk, .one rfl rfl fun v hv => .cl _ _ ?_⟩
    cases hv with
    | cl _ _ hc => cases hc
    | b _ _ b M hμ =>
     have hblk := Z7c hb;have hcells := fun r c hc => h.cells hblk hμ 0 d rfl r c hc;have := CR.cb (F := Z3g F μ H w kk) d b 0 off (fun r => (w.cell? ⟨b, r, none⟩).getD undef) (fun r c hc => by
      obtain ⟨v, g1, g2, g3⟩ := hcells r c hc
      rw [Nat.zero_mul, Nat.zero_add] at g1
      rw [Nat.zero_add, Zbk h hm (by rw [hblk]; rfl) hμ, g1]
      exact ⟨rfl, g2⟩) (fun r c hc => by
      obtain ⟨v, g1, g2, g3⟩ := hcells r c hc
      rw [Nat.zero_mul, Nat.zero_add] at g1
      rw [g1]
      exact (Zgo g3 (hf.out c (List.mem_of_getElem? hc))).mono Z2y)
     rw [Nat.zero_add] at this;exact this
   ·exact hk.elim
  ·exact ⟨_, hk, .same _⟩
 | .p k sz i off, K, hk => by
  simp only [fzG] at hk
  split at hk
  ·rename_i hm
   have hm := (Z3w kk k).1 hm
   split at hk
   ·rename_i sz' es hb
    split at hk
    ·rename_i hsz
     obtain rfl := Nat.eq_of_beq_eq_true hsz;have hf : FrL es := h.fr k _ (by rw [<- Z1u]; exact hb) _ _ rfl;refine ⟨_, hk, .one rfl rfl fun v hv => .cl _ _ ?_⟩
     cases hv with
     | cl _ _ hc => cases hc
     | p _ _ _ _ b M hμ =>
      have hblk := Z5f hb;have hcells := fun i e he r c hc => h.cells hblk hμ i e he r c hc;rcases h.row k _ _ hblk (by rw [hμ]; simp) with ⟨e1, -⟩ | ⟨_, _, _, _, _, _, _, _, hcr⟩
      ·rw [hμ] at e1; cases e1
      ·have := CR.ip (F := Z3g F μ H w kk) sz es b 0 i off (fun i r => (w.cell? ⟨b, i * sz + r, none⟩).getD undef) (fun i e he => (hcr i e he).1) (fun i e r c he hc => by
        obtain ⟨v, g1, g2, g3⟩ := hcells i e he r c hc
        rw [Nat.zero_add, Zbk h hm (by rw [hblk]; rfl) hμ, g1]
        exact ⟨rfl, g2⟩) (fun i e r c he hc => by
        obtain ⟨v, g1, g2, g3⟩ := hcells i e he r c hc
        rw [g1]
        exact (Zgo g3 (Zk3 (hf.out e (List.mem_of_getElem? he)) c (List.mem_of_getElem? hc))).mono Z2y)
       rw [Nat.zero_add] at this;exact this
    ·exact hk.elim
   ·exact hk.elim
  ·exact ⟨_, hk, .same _⟩
 | .v x, K, hk => ⟨_, by simpa only [fzG] using hk, .same _⟩
 | .arr cs, K, hk => ⟨_, by simpa only [fzG] using hk, .same _⟩
 | .sl sz es, K, hk => ⟨_, by simpa only [fzG] using hk, .same _⟩
 | .ip sz es i off, K, hk => ⟨_, by simpa only [fzG] using hk, .same _⟩
 | .cb d off, K, hk => ⟨_, by simpa only [fzG] using hk, .same _⟩
 | .bs k off, K, hk => ⟨_, by simpa only [fzG] using hk, .same _⟩
 | .mv _, K, hk => ⟨_, by simpa only [fzG] using hk, .same _⟩
 | .yv _, K, hk => ⟨_, by simpa only [fzG] using hk, .same _⟩
 | .z0, K, hk => ⟨_, by simpa only [fzG] using hk, .same _⟩
 | .any, K, hk => ⟨_, by simpa only [fzG] using hk, .same _⟩
theorem fzL_sound (h : HR F μ H w) : ∀ (l : List D) (K : List D -> Prop), fzL ar H kk l K -> ∃ l', K l' /\ l'.length = l.length /\ ∀ (i : Nat) (d' : D), l'[i]? = some d' -> ∃ d, l[i]? = some d /\ ∀ v, VR F μ d v -> VR (Z3g F μ H w kk) μ d' v
 | [], K, hk => ⟨[], by simpa only [fzL] using hk, rfl, fun i d' hd => by simp at hd⟩
 | d :: r, K, hk => by
  simp only [fzL] at hk;obtain ⟨d', h1, h2, h3, -⟩ := fzG_sound h d _ hk;obtain ⟨r', g1, g2, g3⟩ := fzL_sound h r _ h1;refine ⟨_, g1, by simp [g2], fun i x hx => ?_⟩
  match i, hx with
  | 0, hx => simp at hx; subst hx; exact ⟨d, rfl, h3⟩
  | i + 1, hx => obtain ⟨y, hy, hz⟩ := g3 i x (by simpa using hx); exact ⟨y, by simpa using hy, hz⟩
end
end
end Go.Abs

namespace Go.Abs
open Go
section
variable {P : Program} {T : TT} {F F' : Fz} {μ : Mu} {w : World} {H : List Blk} {kk : List Nat} {r : Option Nat} {m : Nat} {Q : AX -> St -> Prop}
def Zr9 (F : Fz) (μ : Mu) (H : List Blk) (w : World) (kk : List Nat) (j : Nat) (x x' : Blk) : Prop :=
 (j ∈ kk /\ x' = .dead /\ x.obj = none) ∨ (j ∉ kk /\ (x' = x ∨ ∃ d d', x = .box d /\ x' = .box d' /\ FzR F μ H w kk d d'))
theorem Z7u (h : HR F μ H w) : ∀ (j : Nat) (l : List Blk) (K : List Blk -> Prop), fzH ar H kk j l K -> ∃ l', K l' /\ l'.length = l.length /\ ∀ (i : Nat) (x' : Blk), l'[i]? = some x' -> ∃ x, l[i]? = some x /\ Zr9 F μ H w kk (j + i) x x'
 | j, [], K, hk => ⟨[], hk, rfl, fun i x' hx => by simp at hx⟩
 | j, x :: l, K, hk => by
  have fin : ∀ x0 x', Zr9 F μ H w kk j x0 x' -> ∀ l', (∀ (i : Nat) (x' : Blk), l'[i]? = some x' -> ∃ x, l[i]? = some x /\ Zr9 F μ H w kk (j + 1 + i) x x') -> ∀ (i : Nat) (y : Blk), (x' :: l')[i]? = some y -> ∃ z, (x0 :: l)[i]? = some z /\ Zr9 F μ H w kk (j + i) z y := fun x0 x' h1 l' h2 i y hy => by
   match i, hy with
   | 0, hy => simp at hy; subst hy; exact ⟨x0, rfl, h1⟩
   | i + 1, hy =>
    obtain ⟨z, hz, hr⟩ := h2 i y (by simpa using hy);exact ⟨z, by simpa using hz, by rwa [show j + (i + 1) = j + 1 + i by omega]⟩
  simp only [fzH] at hk
  split at hk
  ·rename_i hm
   split at hk
   ·exact hk.elim
   ·rename_i hno
    obtain ⟨l', h1, h2, h3⟩ := Z7u h (j + 1) l _ hk;exact ⟨_, h1, by simp [h2], fin _ _ (.inl ⟨(Z3w kk j).1 hm, rfl, by cases x <;> first | rfl | exact absurd rfl (hno _)⟩) l' h3⟩
  ·rename_i hm
   have hm : j ∉ kk := fun e => by rw [(Z3w kk j).2 e] at hm; cases hm
   split at hk
   ·rename_i d
    obtain ⟨d', hk, hr⟩ := fzG_sound h d _ hk;obtain ⟨l', h1, h2, h3⟩ := Z7u h (j + 1) l _ hk;exact ⟨_, h1, by simp [h2], fin _ _ (.inr ⟨hm, .inr ⟨_, _, rfl, rfl, hr⟩⟩) l' h3⟩
   ·obtain ⟨l', h1, h2, h3⟩ := Z7u h (j + 1) l _ hk;exact ⟨_, h1, by simp [h2], fin _ _ (.inr ⟨hm, .inl rfl⟩) l' h3⟩
theorem Zgx (h : HR F μ H w) : ∀ (l : List (Nat × D)) (K : List (Nat × D) -> Prop), fzE ar H kk l K -> ∃ l', K l' /\ ∀ t d', Z1c l' t = some d' -> ∃ d, Z1c l t = some d /\ ∀ v, VR F μ d v -> VR (Z3g F μ H w kk) μ d' v
 | [], K, hk => ⟨[], hk, fun t d' hd => by cases hd⟩
 | (t0, d) :: l, K, hk => by
  simp only [fzE] at hk;obtain ⟨d', h1, hr⟩ := fzG_sound h d _ hk;obtain ⟨l', h2, h3⟩ := Zgx h l _ h1;refine ⟨_, h2, fun t x hx => ?_⟩;simp only [Z1c] at hx ⊢
  split at hx
  ·rename_i e; subst e; cases hx; exact ⟨d, by rw [if_pos rfl], hr.val⟩
  ·rename_i e; rw [if_neg e]; exact h3 t x hx
theorem Zd7 (h : HR F μ H w) {H' : List Blk} (hl : H'.length = H.length) (hb : ∀ (i : Nat) (x' : Blk), H'[i]? = some x' -> ∃ x, H[i]? = some x /\ Zr9 F μ H w kk i x x') :
  HR (Z3g F μ H w kk) μ H' w /\ Post F μ H w (Z3g F μ H w kk) μ H' w /\ ∀ k y, Z13 H k = some y -> Z13 H' k = some y := by
 have blk : ∀ k sz es', Z17 H' k = some (sz, es') -> k ∉ kk /\ ∃ es, Z17 H k = some (sz, es) /\ es'.length = es.length /\ ∀ c, Z1l F μ sz es c -> Z1l (Z3g F μ H w kk) μ sz es' c := fun k sz es' hk => by
  simp only [Z17] at hk
  cases hx : H'[k]? with
  | none => rw [hx] at hk; simp at hk
  | some x' =>
   rw [hx] at hk;simp only [Option.bind_some] at hk;obtain ⟨x, g1, g2⟩ := hb k x' hx;rcases g2 with ⟨-, rfl, -⟩ | ⟨g0, rfl | ⟨d, d', rfl, rfl, hr⟩⟩
   ·simp [Blk.es] at hk
   ·exact ⟨g0, es', by simp only [Z17, g1, Option.bind_some]; exact hk, rfl, fun c hc => hc.mono Z2y (fun _ _ e => e)⟩
   ·simp only [Blk.es, Option.some.injEq, Prod.mk.injEq] at hk;obtain ⟨rfl, rfl⟩ := hk;refine ⟨g0, [d], by simp only [Z17, g1, Option.bind_some, Blk.es, hr.len], rfl, fun c hc i e he => ?_⟩
    match i, he with
    | 0, he =>
     simp at he; subst he;refine ⟨rfl, fun r c' hc' => ?_⟩;obtain ⟨c0, hc0, hg⟩ := hr.cel r c' hc';obtain ⟨v, v1, v2, v3⟩ := (hc 0 d rfl).2 r c0 hc0;exact ⟨v, v1, v2, hg v v3⟩
    | i + 1, he => simp at he
 have obs : ∀ k y, Z13 H' k = some y -> Z13 H k = some y := fun k y hk => by
  obtain ⟨x', hx, hy⟩ := Option.bind_eq_some_iff.1 hk;obtain ⟨x, g1, g2⟩ := hb k x' hx;rcases g2 with ⟨-, rfl, -⟩ | ⟨-, rfl | ⟨d, d', rfl, rfl, -⟩⟩
  ·cases hy
  ·rw [Z19 g1]; exact hy
  ·cases hy
 have obs2 : ∀ k y, Z13 H k = some y -> Z13 H' k = some y := fun k y hk => by
  have hlt := Z2p hk;obtain ⟨x, g1, g2⟩ := hb k H'[k] (List.getElem?_eq_getElem (by omega));have hx := Z19 g1;rcases g2 with ⟨-, -, e⟩ | ⟨-, e | ⟨d, d', e, -, -⟩⟩
  ·rw [hk, e] at hx; cases hx
  ·rw [Z19 (List.getElem?_eq_getElem (by omega)), e, <- hx]; exact hk
  ·rw [hk, e] at hx; cases hx
 have live : ∀ k, Z20 H' k = true -> Z20 H k = true /\ (k ∈ kk -> (Z17 H k) = none) := fun k hk => by
  rcases Zlo hk with ⟨⟨sz, es'⟩, hk⟩ | ⟨x, hk⟩
  ·obtain ⟨h1, es, h2, -⟩ := blk k sz es' hk;exact ⟨Z15 h2, fun e => absurd e h1⟩
  ·exact ⟨Z2j (obs k x hk), fun _ => Z6w (obs k x hk)⟩
 have own : ∀ b, Own μ H' b -> Own μ H b := fun b ⟨k, h1, h2⟩ => ⟨k, (live k h1).1, h2⟩;refine ⟨⟨fun k hk => h.dom k (by omega), fun k sz es' hk hne => ?_, fun k y hk => ?_, fun k x hk hne => (h.obj k x (obs k x hk) hne).frame Z2y (fun _ _ e => e) (fun _ => Iff.rfl) (fun _ _ => rfl), h.non, fun k k' b hk hk' => h.inj k k' b (live k hk).1 (live k' hk').1, fun b hb => h.lt b (own b hb), fun b o v hv => ?_, fun k x' hx => ?_, fun b p hp => ⟨(h.kb b p hp).1, fun ho => (h.kb b p hp).2 (own b ho)⟩⟩,
  ⟨Z2y, fun b o v hv => ?_, Nat.le_refl _, rfl, rfl, rfl, fun b _ ho => ⟨rfl, fun ho' => ho (own b ho')⟩⟩, obs2⟩
 ·obtain ⟨-, es, g1, g2, g3⟩ := blk k sz es' hk;rcases h.row k sz es g1 hne with ⟨e1, e2⟩ | ⟨b, m, c, t, e1, e2, e3, e4, e5⟩
  ·refine .inl ⟨e1, ?_⟩;subst e2
   cases es' with
   | nil => rfl
   | cons => simp at g2
  ·exact .inr ⟨b, m, c, t, e1, e2, e3, by rw [g2]; exact e4, g3 c e5⟩
 ·obtain ⟨sz, es⟩ := y;obtain ⟨-, es0, g1, -⟩ := blk k sz es hk;exact h.plain k _ g1
 ·rcases Zff hv with hv | ⟨hv, k, m, hk, h1, h2⟩
  ·exact ⟨(h.frz b o v hv).1, fun ho => (h.frz b o v hv).2 (own b ho)⟩
  ·refine ⟨hv, fun ⟨k', h1', h2'⟩ => ?_⟩;obtain ⟨g1, g2⟩ := live k' h1';obtain ⟨y, hy⟩ := Option.isSome_iff_exists.1 h1;have := h.inj k k' b (Z15 hy) g1 (.inl ⟨m, h2⟩) h2';subst this;rw [g2 hk] at hy; cases hy
 ·obtain ⟨x, g1, g2⟩ := hb k x' hx;rcases g2 with ⟨-, rfl, -⟩ | ⟨-, rfl | ⟨d, d', rfl, rfl, -⟩⟩
  ·exact fun _ _ e => by cases e
  ·exact h.fr k _ g1
  ·exact fun _ _ e => by cases e
 ·rcases Zff hv with hv | ⟨hv, k, m, hk, h1, h2⟩
  ·exact .inl hv
  ·obtain ⟨y, hy⟩ := Option.isSome_iff_exists.1 h1;exact .inr (.inl ⟨k, Z15 hy, .inl ⟨m, h2⟩⟩)
def Zij (A : Ar) (kk : List Nat) (s : St) (K : St -> Prop) : Prop := fzE A s.H kk s.env fun e => fzH A s.H kk 0 s.H fun H' => K { env := e, H := H', nt := s.nt, dfs := s.dfs }
theorem Zbl {s : St} {K : St -> Prop} (hk : Zij ar kk s K) {a : Act} (h : RL m F μ s a w) : ∃ s', K s' /\ RL m (Z3g F μ s.H w kk) μ s' a w /\ Post F μ s.H w (Z3g F μ s.H w kk) μ s'.H w /\ Kp m μ s.H μ s'.H := by
 obtain ⟨e, h1, h2⟩ := Zgx h.hr s.env _ hk;obtain ⟨H', h3, h4, h5⟩ := Z7u h.hr 0 s.H _ h1;obtain ⟨g1, g2, g3⟩ := Zd7 (kk := kk) h.hr h4 (fun i x' hx => by simpa using h5 i x' hx);refine ⟨_, h3, ⟨g1, ⟨fun t d' ht => ?_, h.er.nt, h.er.dfs.mono Z2y (fun _ _ e => e) (fun k hk => ⟨g3 k _ hk, fun _ h => h⟩)⟩, by simpa only [h4] using h.len⟩, g2, .ob fun i hi => g3 i _ hi⟩;obtain ⟨d, k1, k2⟩ := h2 t d' ht;obtain ⟨v, v1, v2⟩ := h.er.env t d k1;exact ⟨v, v1, k2 v v2⟩
theorem Z25j {c : Code} {s : St} (kk : List Nat) (hk : Zij ar kk s (WpA P r m c Q)) : WpA P r m c Q s :=
 ⟨fun F μ act w h1 => by
  obtain ⟨s', g1, g2, g3, g4⟩ := Zbl hk h1
  exact Z1us (g1.out _ μ act w g2) fun _ _ _ hp => hp.trans g3 g4⟩
structure GhA (m : Nat) (d : D) (H : List Blk) (K : D -> List Blk -> Prop) : Prop where
 out : ∀ F μ w v, HR F μ H w -> VR F μ d v -> ∃ F' μ' H' d', Post F μ H w F' μ' H' w /\ HR F' μ' H' w /\ Kp m μ H μ' H' /\ VR F' μ' d' v /\ (m <= H.length -> m <= H'.length) /\ K d' H'
theorem Z1 {d : D} {K : D -> List Blk -> Prop} (h : K d H) : GhA m d H K := ⟨fun F μ w v hr hv => ⟨F, μ, H, d, Post.refl _ _ _ _, hr, .refl _ _ _, hv, fun h => h, h⟩⟩
theorem Z1w {d : D} {K : D -> List Blk -> Prop} (kk : List Nat) (h : fzG ar H kk d fun d' => fzH ar H kk 0 H fun H' => GhA m d' H' K) : GhA m d H K :=
 ⟨fun F μ w v hr hv => by
  obtain ⟨d', h1, h2⟩ := fzG_sound hr d _ h
  obtain ⟨H', h3, h4, h5⟩ := Z7u hr 0 H _ h1
  obtain ⟨g1, g2, g3⟩ := Zd7 (kk := kk) hr h4 (fun i x' hx => by simpa using h5 i x' hx)
  obtain ⟨F'', μ'', H'', d'', k1, k2, k3, k4, k5, k6⟩ := h3.out _ μ w v g1 (h2.val v hv)
  exact ⟨F'', μ'', H'', d'', g2.trans k1, k2, (Kp.ob fun i hi => g3 i _ hi).trans k3, k4, fun h => k5 (by omega), k6⟩⟩
theorem Z2 {d d' : D} {H' : List Blk} {K : D -> List Blk -> Prop} (ix : List Nat) (nd : ix.Nodup) (pre : ∀ i, i < m -> Z9f ix i = some i) (blk : Z62 (rho ix H.length) H ix H') (hd : renD (rho ix H.length) d' = d) (h : GhA m d' H' K) : GhA m d H K :=
 ⟨fun F μ w v hr hv => by
  have hl : Lent H ix H' := ⟨nd, (Z11 blk).1, (Z11 blk).2, Zab (Z11 blk).1 (Z11 blk).2 hr⟩
  obtain ⟨F'', μ'', H'', d'', k1, k2, k3, k4, k5, k6⟩ := h.out F _ w v (Zac hl hr) (Z2x hv d' hd.symm)
  have hp : Post F μ H w F (μ.ren (rho ix H.length)) H' w := ⟨fun _ _ _ e => e, fun _ _ _ e => .inl e, Nat.le_refl _, rfl, rfl, rfl, fun b' _ ho => ⟨rfl, fun ho' => ho (hl.own_up ho')⟩⟩
  refine ⟨F'', μ'', H'', d'', hp.trans k1, k2, (hl.kp pre).trans k3, k4, fun _ => k5 ?_, k6⟩
  ·rw [hl.len]
   apply Nat.le_of_not_lt; intro hlt
   have := pre _ hlt
   rw [Z8i] at this
   simp at this⟩
def ghQ (m : Nat) (Q : RA -> List Blk -> Prop) : RA -> List Blk -> Prop
 | .ret d, H => GhA m d H fun d' H' => Q (.ret d') H'
 | .pan d, H => Q (.pan d) H
theorem Zcb {f : FuncId} {as : List D} {H : List Blk} {Q : RA -> List Blk -> Prop} (h : CallA P f as H (ghQ H.length Q)) : CallA P f as H Q := by
 refine ⟨h.fn, fun F μ vs w h1 h2 h3 => Z1vt.mono (h.out F μ vs w h1 h2 h3) fun e w' he => ?_⟩
 cases e with
 | returned v =>
  obtain ⟨F', μ', H', d, hs, hv, hq⟩ := he;obtain ⟨F'', μ'', H'', d'', k1, k2, k3, k4, k5, k6⟩ := GhA.out hq F' μ' w' v hs.hr hv;exact ⟨F'', μ'', H'', d'', ⟨hs.post.trans k1, k2, k5 hs.len, fun j hj => (k3.same j hj).trans (hs.same j hj), fun k hk => ⟨(k3.mks k (Z2p hk) (hs.mks k hk).1).1, fun c hc => (k3.mks k (Z2p hk) (hs.mks k hk).1).2 c ((hs.mks k hk).2 c hc)⟩⟩, k4, k6⟩
 | panicked ch => exact he
 | outgrown => exact he.elim
theorem Z5 (hT : TOK P T) {A : Ar} (hA : A = ar) {f : FuncId} {fn : Func} {c : Code} (hf : P.funcs[f]? = some fn) (hb : fn.body = some c) (hnm : (fn.name == "runtime.NumGoroutine") = false) {as : List D} {H : List Blk} {Q : RA -> List Blk -> Prop} (hnt : Nat.ble as.length fn.ntmps = true) {rs : List ResultVar} (hrs : fn.results.toList = rs) {nt : Nat} (hnt2 : fn.ntmps = nt)
  (h : ∀ S, S = Zo P none H.length -> vcC A T S c (Znx A T rs (ghQ H.length Q)) { env := Zd6 0 as, H := H, nt := nt, dfs := [] }) : CallA P f as H Q :=
 Zcb (Zr8 hT hA hf hb hnm hnt hrs hnt2 h)
end
end Go.Abs

namespace Go.Abs
open Go
theorem FrL.map {α : Type} {f : α -> D} (h : ∀ x, frD (f x) = true) (l : List α) : FrL (l.map f) := ⟨fun d hd => by
 obtain ⟨x, -, rfl⟩ := List.mem_map.1 hd; exact h x⟩
theorem FrL.one {d : D} (h : frD d = true) : FrL [d] := ⟨fun x hx => by simp at hx; subst hx; exact h⟩
theorem FrL.get {a : List D} (h : FrL a) {i : Nat} {d : D} (hd : a[i]? = some d) : frD d = true := h.out d (List.mem_of_getElem? hd)
theorem Zra {H : List Blk} {k sz : Nat} {es es' : List D} {ρ : Nat -> Nat} (h : Z1m H k = some (.els sz es')) (he : es' = es) : Z1m H k = some (Z68 ρ (.els sz es)) := by
 rw [h, he, Z68]
end Go.Abs

namespace Go.Abs
open Go
section
variable {P : Program} {T : TT} {F : Fz} {μ : Mu} {w : World} {r : Option Nat} {m : Nat} {Q : AX -> St -> Prop}
theorem Zny {s : St} {a : Act} {t sz : Nat} (ht : Z1c s.env t = some (.v (.slice none 0 0))) (h : RL m F μ s a w) :
  ∃ μ', RL m F μ' { s with env := Z6j s.env t (.o s.H.length sz 0), H := s.H ++ [.els sz []] } a w /\ Post F μ s.H w F μ' (s.H ++ [.els sz []]) w /\ Kp m μ s.H μ' (s.H ++ [.els sz []]) := by
 obtain ⟨q1, q2, q3⟩ := Zc5 h.hr (sz := sz) (h.hr.dom _ (Nat.le_refl _)) (Nat.le_refl _);rw [Z6y] at q1 q2;refine ⟨_, ⟨q1, ⟨fun n d hn => ?_, h.er.nt, h.er.dfs.mono (fun _ _ _ e => e) q3 (Mks.app _ _ _ _ _)⟩, by have := h.len; simp; omega⟩, q2, ⟨fun i hi => by rw [Z2k _ (by have := h.len; omega)], fun i _ hk => Mks.app _ _ _ _ _ i hk⟩⟩;simp only [Z5n] at hn
 split at hn
 ·rename_i e; subst e; cases hn
  obtain ⟨v, h1, h2⟩ := h.er.env _ _ ht;obtain rfl := h2.v_inv;exact ⟨_, h1, .oNil _ _ none (Z2f _ _ _)⟩
 ·obtain ⟨v, h1, h2⟩ := h.er.env n d hn;exact ⟨v, h1, h2.mono (fun _ _ _ e => e) q3⟩
theorem Zrb {c : Code} {s : St} (t sz : Nat) (ht : Z1c s.env t = some (.v (.slice none 0 0))) (h : WpA P r m c Q { s with env := Z6j s.env t (.o s.H.length sz 0), H := s.H ++ [.els sz []] }) : WpA P r m c Q s :=
 ⟨fun F μ act w h1 => by
  obtain ⟨μ', g1, g2, g3⟩ := Zny (sz := sz) ht h1
  exact Z1us (h.out _ μ' act w g1) fun _ _ _ hp => hp.trans g2 g3⟩
theorem Zpi {S : Stop} (hS : S = Zo P r m) {c : Code} {s : St} (t sz : Nat) (ht : Z1c s.env t = some (.v (.slice none 0 0))) (h : S.code c Q { s with env := Z6j s.env t (.o s.H.length sz 0), H := s.H ++ [.els sz []] }) : S.code c Q s := by
 subst hS; exact Zrb t sz ht h
end
end Go.Abs

namespace Go.Abs
open Go
section
variable {P : Program} {T : TT} {r : Option Nat} {m : Nat} {Q : AX -> St -> Prop}
end
end Go.Abs
