/- Part TxAQ of the proofs about the benches of the accordion maker: see the last text of the claim for what is proved. -/
import Derived.RangeFuncRecord
import Derived.Test.YtggilmnhgjofiaaGreatTxAP
set_option linter.unusedVariables false
set_option linter.unusedSimpArgs false
set_option linter.unnecessarySimpa false
set_option linter.constructorNameAsVariable false

namespace Go.Abs
open Go
def Z4s (ops : Array Oper) (o : Oper) : List (Nat × PK) -> Bool
 | [] => true
 | u :: r =>
  match ops[u.1]? with
  | some o' =>
   match o'.dst with
   | some t => (match Z7a (o.looksAt ops) t, Z7a (ons o) u.1 with | true, false => false | _, _ => Z4s ops o r)
   | none => Z4s ops o r
  | none => Z4s ops o r
def Z2l (ops : Array Oper) (o : Oper) : List (Nat × PK) -> Bool
 | [] => true
 | u :: r =>
  match o.dst, ops[u.1]? with
  | some t, some o' => (match (match o'.dst with | some t' => Nat.beq t' t | none => false), Z7a (o'.looksAt ops) t with | false, false => Z2l ops o r | _, _ => false)
  | _, _ => Z2l ops o r
def Zdz (ops : Array Oper) (o : Oper) : Bool :=
 match o.dst with
 | some t => (match Z7a (o.looksAt ops) t with | true => false | false => true)
 | none => true
def Zrw (p : Nat -> Bool) : List Nat -> Bool
 | [] => false
 | i :: r => (match p i with | true => true | false => Zrw p r)
def Z8n (ops : Array Oper) (i : Nat) (L : List Nat) : Bool := allB (fun i' => match ops[i']? with | some o' => Zrw (fun e => Z7a (i :: L) e) (ons o') | none => true) L
def Z1j (o : Oper) : List (Nat × PK) -> List (Nat × PK)
 | [] => []
 | u :: r => (match Z7a (ons o) u.1 with | true => Z1j o r | false => u :: Z1j o r)
def Z7v (A : Ar) (T : TT) (ops : Array Oper) (K : List (Nat × PK) -> St -> Prop) (pend : List (Nat × PK)) (s : St) : Prop := Z7f A T ops s pend /\ K pend s
def vcD (A : Ar) (T : TT) (ops : Array Oper) (Kend : St -> Prop) (Dk : List Nat -> List (Nat × PK) -> St -> Prop) : List Nat -> List (Nat × PK) -> St -> Prop
 | [], _, s => Kend s
 | i :: L, pend, s =>
  match ops[i]? with
  | none => False
  | some o =>
   match Z36 s.nt o.dst, Z4s ops o pend with
   | true, true =>
    match Zr4 o.op, Z2l ops o pend && Zdz ops o with
    | 1, true => Zh ops s o (fun s => match Zo1 (s.only (o.looksAt ops)) o.op with
      | true => Z1q A T (s.only (o.looksAt ops)) (fun d => vcD A T ops Kend Dk L ((i, .val d) :: pend) (s.step o.dst d s.H s.dfs)) o.op
      | false => False) (fun s => vcD A T ops Kend Dk L ((i, .val (.tup [])) :: pend) (s.step o.dst (.tup []) s.H s.dfs))
    | 2, true => Zh ops s o (fun s => Z5g A T (s.only (o.looksAt ops)) (fun x mk => vcD A T ops Kend Dk L ((i, .alc s.H.length x (mk s.H.length)) :: pend) (s.step o.dst (mk s.H.length) (s.H ++ [x]) s.dfs)) o.op)
      (fun s => vcD A T ops Kend Dk L ((i, .val (.tup [])) :: pend) (s.step o.dst (.tup []) s.H s.dfs))
    | 1, false =>
     match Z2l ops o (Z1j o pend), Z8n ops i L with
     | true, true => Zh ops s o (fun s => Z1q A T (s.only (o.looksAt ops)) (fun d => Z7v A T ops (fun p s => vcD A T ops Kend Dk L p s) (Z1j o pend) (s.step o.dst d s.H s.dfs)) o.op) (fun s => Z7v A T ops (fun p s => vcD A T ops Kend Dk L p s) (Z1j o pend) (s.step o.dst (.tup []) s.H s.dfs))
     | _, _ => False
    | 3, _ =>
     match Z2l ops o (Z1j o pend), Z8n ops i L with
     | true, true => Zh ops s o (fun s => wA A T (s.only (o.looksAt ops)) (fun d H' => Z7v A T ops (fun p s => vcD A T ops Kend Dk L p s) (Z1j o pend) (s.step o.dst (d.getD (.tup [])) H' s.dfs)) o.op) (fun s => Z7v A T ops (fun p s => vcD A T ops Kend Dk L p s) (Z1j o pend) (s.step o.dst (.tup []) s.H s.dfs))
     | _, _ => False
    | _, _ => Dk (i :: L) pend s
   | _, _ => False
section
variable {P : Program} {T : TT} {r : Option Nat} {m : Nat} {ops : Array Oper} {Q : AX -> St -> Prop} {s : St} {A : Ar}
theorem Z23 {o : Oper} : ∀ {pend : List (Nat × PK)}, Z4s ops o pend = true -> LooksOk ops o pend
 | [], _ => ⟨fun u hu => by simp at hu⟩
 | v :: r, h => by
  simp only [Z4s] at h;refine ⟨fun u hu o' t h1 h2 h3 => ?_⟩;rcases List.mem_cons.1 hu with rfl | hu
  ·simp only [h1, h2] at h
   split at h
   ·cases h
   ·rename_i hne
    rw [(Z3w _ _).2 h3] at hne
    cases hb : Z7a (ons o) u.1 with
    | true => exact (Z3w _ _).1 hb
    | false => exact absurd hb (fun hb => hne rfl hb)
  ·have hr : Z4s ops o r = true := by
    split at h
    ·split at h
     ·split at h
      ·cases h
      ·exact h
     ·exact h
    ·exact h
   exact (Z23 hr).out u hu o' t h1 h2 h3
theorem Z1t {o : Oper} : ∀ {pend : List (Nat × PK)}, Z2l ops o pend = true -> WritesOk ops o pend
 | [], _ => ⟨fun u hu => by simp at hu⟩
 | v :: r, h => by
  simp only [Z2l] at h;refine ⟨fun u hu o' t h1 h2 => ?_⟩;rcases List.mem_cons.1 hu with rfl | hu
  ·simp only [h1, h2] at h
   split at h
   ·rename_i g1 g2
    refine ⟨fun e => ?_, fun e => by rw [(Z3w _ _).2 e] at g2; cases g2⟩;rw [e] at g1;simp only [Nat.beq_refl] at g1
    cases g1
   ·cases h
  ·have hr : Z2l ops o r = true := by
    split at h
    ·split at h
     ·exact h
     ·cases h
    ·exact h
   exact (Z1t hr).out u hu o' t h1 h2
theorem Z3s {o : Oper} (h : Zdz ops o = true) : ∀ t, o.dst = some t -> t ∉ o.looksAt ops := fun t ht hm => by
 simp only [Zdz, ht, (Z3w _ _).2 hm] at h
 cases h
theorem Zfj {p : Nat -> Bool} : ∀ {l : List Nat}, Zrw p l = true -> ∃ i ∈ l, p i = true
 | [], h => by cases h
 | i :: r, h => by
  simp only [Zrw] at h
  split at h
  ·rename_i hi; exact ⟨i, by simp, hi⟩
  ·obtain ⟨j, h1, h2⟩ := Zfj h; exact ⟨j, by simp [h1], h2⟩
theorem Zio {i : Nat} {L : List Nat} (h : Z8n ops i L = true) : ∀ i' ∈ L, ∀ o', ops[i']? = some o' -> ∃ e ∈ ons o', e = i ∨ e ∈ L := fun i' hi o' ho => by
 have h1 := Z70.1 h i' hi;simp only [ho] at h1;obtain ⟨e, h2, h3⟩ := Zfj h1;exact ⟨e, h2, by simpa using (Z3w _ _).1 h3⟩
theorem Zae {o : Oper} : ∀ {pend : List (Nat × PK)}, ∀ u ∈ pend, u ∈ Z1j o pend ∨ u.1 ∈ ons o
 | [], u, hu => by simp at hu
 | v :: r, u, hu => by
  simp only [Z1j];rcases List.mem_cons.1 hu with rfl | hu
  ·split
   ·rename_i h; exact .inr ((Z3w _ _).1 h)
   ·exact .inl (by simp)
  ·rcases Zae (o := o) u hu with h | h
   ·split
    ·exact .inl h
    ·exact .inl (by simp [h])
   ·exact .inr h
theorem Z5p {i : Nat} {L : List Nat} {pend : List (Nat × PK)} {o : Oper} (ho : ops[i]? = some o) (hd : Z36 s.nt o.dst = true) (hl : Z4s ops o pend = true) (hw : Z2l ops o (Z1j o pend) = true) (hr : Z8n ops i L = true)
  (hk : Zh ops (s.only (o.looksAt ops)) o (fun s' => OpA P r o s' (fun d H' ds => Z7v ar T ops (fun p s => DrawA P T r m ops Q L p s) (Z1j o pend) (s.step o.dst d H' ds)) (fun d H' => ∀ e, Q (.pan d) { env := e, H := H', nt := s.nt, dfs := s.dfs })) (fun _ => Z7v ar T ops (fun p s => DrawA P T r m ops Q L p s) (Z1j o pend) (s.step o.dst (.tup []) s.H s.dfs))) : DrawA P T r m ops Q (i :: L) pend s := by
 have hw' := Z1t hw;exact .eff (K := fun d H' ds => Z7v ar T ops (fun p s => DrawA P T r m ops Q L p s) (Z1j o pend) (s.step o.dst d H' ds)) (Z1j o pend) ho hd (Z23 hl) hw' (fun u hu => Zae u hu) (Zio hr) hk
  (fun d H' ds hK u hu hok => Zeh (fun o' t h1 h2 => hw'.out u hu o' t h1 h2) hok (Zad hK.1 u hu)) (fun d H' ds hK => hK.2)
theorem Z6r (hT : TOK P T) {Kend : St -> Prop} (hK : ∀ s, Kend s -> Q .normal s) {Dk : List Nat -> List (Nat × PK) -> St -> Prop} (hD : ∀ L pend s, Dk L pend s -> DrawA P T r m ops Q L pend s) : ∀ (L : List Nat) (pend : List (Nat × PK)) (s : St), vcD ar T ops Kend Dk L pend s -> DrawA P T r m ops Q L pend s
 | [], pend, s, h => .done (hK s h)
 | i :: L, pend, s, h => by
  simp only [vcD] at h;have aft : ∀ {p : List (Nat × PK)} {s : St}, Z7v ar T ops (fun p s => vcD ar T ops Kend Dk L p s) p s -> Z7v ar T ops (fun p s => DrawA P T r m ops Q L p s) p s := fun h => ⟨h.1, Z6r hT hK hD L _ _ h.2⟩
  split at h
  ·exact h.elim
  ·rename_i o ho
   split at h
   ·rename_i hd hl
    have skip : ∀ {d : D}, d = .tup [] -> (Z2l ops o pend && Zdz ops o) = true -> (∀ K1 K2 : St -> Prop, K2 s -> Zh ops s o K1 K2) -> vcD ar T ops Kend Dk L ((i, .val d) :: pend) (s.step o.dst d s.H s.dfs) -> DrawA P T r m ops Q (i :: L) pend s := fun {d} e hws hg hk => by
     subst e;simp only [Bool.and_eq_true] at hws;exact .val ho hd (Z23 hl) (Z1t hws.1) (Z3s hws.2) (Z4n hg rfl) (Z6r hT hK hD L _ _ hk)
    split at h
    ·rename_i hws
     rcases Z3q h with ⟨hk, hg⟩ | ⟨hk, hg⟩
     ·split at hk
      ·rename_i hdet
       obtain ⟨d, h1, h2⟩ := Zk4 hdet hk;simp only [Bool.and_eq_true] at hws;exact .val ho hd (Z23 hl) (Z1t hws.1) (Z3s hws.2) (Z3r hg h2) (Z6r hT hK hD L _ _ h1)
      ·exact hk.elim
     ·exact skip rfl hws hg hk
    ·rename_i hws
     rcases Z3q h with ⟨hk, hg⟩ | ⟨hk, hg⟩
     ·obtain ⟨x, mk, h1, h2, h3⟩ := Zka hk hT;simp only [Bool.and_eq_true] at hws;have hw := Z1t hws.1;refine .alc ho hd (Z23 hl) hw (Z3s hws.2) h2 (Z3r hg (Zh1 h3 fun y mk' e => ⟨e.1, by rw [e.2]⟩)) (fun u hu hok => Zo4 (fun o' t h1 h2 => hw.out u hu o' t h1 h2) hok) (Z6r hT hK hD L _ _ h1)
     ·exact skip rfl hws hg hk
    ·split at h
     ·rename_i hw hr
      refine Z5p ho hd hl hw hr ?_;rcases Z3q h with ⟨hk, hg⟩ | ⟨hk, hg⟩
      ·refine Z3r hg ?_;have := Zeg (P := P) (r := r) (o := o) (s := s.only (o.looksAt ops)) (K := fun d H' ds => Z7v ar T ops (fun p s => vcD ar T ops Kend Dk L p s) (Z1j o pend) (s.step o.dst d H' ds)) (X := fun _ _ => False) hT hk;exact this.mono (fun d H ds hk => aft hk) (fun _ _ h => h.elim)
      ·exact Z4n hg (aft hk)
     ·exact h.elim
    ·split at h
     ·rename_i hw hr
      refine Z5p ho hd hl hw hr ?_;rcases Z3q h with ⟨hk, hg⟩ | ⟨hk, hg⟩
      ·refine Z3r hg ?_;have := Zgs (P := P) (r := r) (o := o) (s := s.only (o.looksAt ops)) (K := fun d H' ds => Z7v ar T ops (fun p s => vcD ar T ops Kend Dk L p s) (Z1j o pend) (s.step o.dst d H' ds)) (X := fun _ _ => False) hT hk;exact this.mono (fun d H ds hk => aft hk) (fun _ _ h => h.elim)
      ·exact Z4n hg (aft hk)
     ·exact h.elim
    ·exact hD _ _ _ h
   ·exact h.elim
end
end Go.Abs

namespace Go.Abs
open Go
section
variable {P : Program} {T : TT} {r : Option Nat} {m : Nat} {ops : Array Oper} {Q : AX -> St -> Prop} {s : St}
theorem Z16 (hT : TOK P T) {A : Ar} (hA : A = ar) {S : Stop} (hS : S = Zo P r m) (L : List Nat) {id : Nat} (hE : Zim ops = true) (hL : Zh0 ops.size L = true)
  (h : ∀ Dk, Dk = DrawA P T r m ops Q -> vcD A T ops (Q .normal) Dk L [] s) : S.code (.region id ops true) Q s := by
 subst hA; subst hS;exact Zk9 hT hE hL (Z6r hT (fun _ h => h) (fun _ _ _ h => h) L [] s (h _ rfl))
theorem Zx (hT : TOK P T) {A : Ar} (hA : A = ar) {Dk : List Nat -> List (Nat × PK) -> St -> Prop} (hD : Dk = DrawA P T r m ops Q) {L : List Nat} {pend : List (Nat × PK)} (h : vcD A T ops (Q .normal) Dk L pend s) : DrawA P T r m ops Q L pend s := by
 subst hA; subst hD;exact Z6r hT (fun _ h => h) (fun _ _ _ h => h) L pend s h
theorem Zq {A : Ar} (hA : A = ar) {Dk : List Nat -> List (Nat × PK) -> St -> Prop} (hD : Dk = DrawA P T r m ops Q) {i : Nat} {L : List Nat} {pend : List (Nat × PK)} {o : Oper} {c : Call} {fo : Operand} {f : FuncId} {caps as0 : List D} (as' : List D) (ix : List Nat) (Hf : List Blk)
  (hoi : ops[i]? = some o) (hd : Z36 s.nt o.dst = true) (hlk : Z4s ops o pend = true) (hw : Z2l ops o (Z1j o pend) = true) (hrd : Z8n ops i L = true) (hg : o.guard = none) (ho : o.op = .call c) (hc : c.callee = .value fo)
  (hfo : evo (rE s.env (o.looksAt ops)) fo = some (.fn f caps)) (has : Z34 (c.args.toList.map (evo (rE s.env (o.looksAt ops)))) = some as0)
  (hren : renL (rho ix s.H.length) as' = as0 ++ caps) (hnd : ix.Nodup) (hl : Z62 (rho ix s.H.length) s.H ix Hf)
  (h : CallA P f as' Hf (fun x Hf' => match x with | .ret d => Z7f A T ops (s.step o.dst (renD (rho ix s.H.length) d) (Z10 s.H ix Hf') s.dfs) (Z1j o pend) /\ DrawA P T r m ops Q L (Z1j o pend) (s.step o.dst (renD (rho ix s.H.length) d) (Z10 s.H ix Hf') s.dfs) | .pan _ => False)) : Dk (i :: L) pend s := by
 subst hA; subst hD;refine Z5p hoi hd hlk hw hrd ?_;simp only [Zh, hg];refine Z7t (s := s.only (o.looksAt ops)) ho hc hfo has hren hnd hl ⟨h.fn, fun F μ vs w h1 h2 h3 => Z1vt.mono (h.out F μ vs w h1 h2 h3) fun e w' he => ?_⟩
 cases e with
 | returned v => exact he
 | panicked ch => obtain ⟨_, _, _, _, _, _, _, _, hf⟩ := he; exact hf.elim
 | outgrown => exact he.elim
end
end Go.Abs

namespace Go.Abs
open Go
structure RoundA (P : Program) (k : Nat) (as : List D) (H : List Blk) (Q : RA -> List Blk -> Prop) : Prop where
 out : ∀ (r : Option Nat) F μ (vs : Array Value) w b m, HR F μ H w -> μ k = some (some (b, m)) -> as.length = vs.size -> (∀ (i : Nat) (d : D) (v : Value), as[i]? = some d -> vs[i]? = some v -> VR F μ d v) ->
  ∃ fn tmps assign body, (Instr.yield b vs).run P w = .ok (.round b fn tmps assign body) w /\ Z1wt P b fn tmps assign body w (Zb7 F μ H w Q)
theorem Post.toAt {F : Fz} {μ : Mu} {H : List Blk} {w : World} {F' : Fz} {μ' : Mu} {H' : List Blk} {w' : World} (h : Post F μ H w F' μ' H' w') (n : Nat) : Post F μ H w F' μ' H' (w'.at n) := h.congr rfl rfl rfl rfl
theorem Stp.toAt {F : Fz} {μ : Mu} {H : List Blk} {w : World} {F' : Fz} {μ' : Mu} {H' : List Blk} {w' : World} (h : Stp F μ H w F' μ' H' w') (n : Nat) : Stp F μ H w F' μ' H' (w'.at n) := ⟨h.post.toAt n, h.hr.at n, h.len, h.same, h.mks⟩
def Zo5 : List Nat -> List D -> List (Nat × D) -> List (Nat × D)
 | t :: ps, d :: as, e => Zo5 ps as (Z6j e t d)
 | _, _, e => e
section
variable {P : Program} {T : TT} {F : Fz} {μ : Mu} {w : World} {r : Option Nat} {m : Nat} {Q : AX -> St -> Prop}
theorem Ze0 : ∀ (ps : List Nat) (as : List D) (vs : List Value) (env : List (Nat × D)) (tmps : Array Value), (∀ t d, Z1c env t = some d -> ∃ v, tmps[t]? = some v /\ VR F μ d v) -> as.length = vs.length ->
  (∀ (i : Nat) (d : D) (v : Value), as[i]? = some d -> vs[i]? = some v -> VR F μ d v) -> (∀ t ∈ ps, t < tmps.size) -> ps.length = as.length ->
  (∀ t d, Z1c (Zo5 ps as env) t = some d -> ∃ v, ((ps.zip vs).foldl (fun tmps (x : Nat × Value) => tmps.setIfInBounds x.1 x.2) tmps)[t]? = some v /\ VR F μ d v) /\ ((ps.zip vs).foldl (fun tmps (x : Nat × Value) => tmps.setIfInBounds x.1 x.2) tmps).size = tmps.size
 | [], as, vs, env, tmps, h, _, _, _, _ => ⟨by cases as <;> exact h, by simp⟩
 | t :: ps, [], vs, env, tmps, h, _, _, _, hl => by simp at hl
 | t :: ps, d :: as, [], env, tmps, h, hl, _, _, _ => by simp at hl
 | t :: ps, d :: as, v :: vs, env, tmps, h, hl, hv, hp, hl2 => by
  have := Ze0 ps as vs (Z6j env t d) (tmps.setIfInBounds t v) (fun t' d' hd => by
   rw [Z5n] at hd
   rw [Array.getElem?_setIfInBounds]
   split at hd
   ·rename_i e; subst e; cases hd
    exact ⟨v, by rw [if_pos rfl, if_pos (hp t (by simp))], hv 0 d v rfl rfl⟩
   ·rename_i e
    obtain ⟨u, h1, h2⟩ := h t' d' hd
    exact ⟨u, by rw [if_neg e]; exact h1, h2⟩) (by simpa using hl) (fun i d' v' h1 h2 => hv (i + 1) d' v' (by simpa using h1) (by simpa using h2)) (fun t' ht' => by rw [Array.size_setIfInBounds]; exact hp t' (by simp [ht'])) (by simpa using hl2)
  refine ⟨fun t' d' hd => ?_, ?_⟩
  ·obtain ⟨u, h1, h2⟩ := this.1 t' d' hd;exact ⟨u, by simpa using h1, h2⟩
  ·have h2 := this.2;rw [Array.size_setIfInBounds] at h2;simpa using h2
def Zrx (k : Nat) (params : List Nat) (env : List (Nat × D)) (nt : Nat) (assign body : Code) (Q : RA -> List Blk -> Prop) : AX -> St -> Prop
 | .normal, s => (∃ st pend, Z1m s.H k = some (.ob (.lp st pend env nt params assign body))) /\ Q (.ret (.v (.bool true))) (s.H.set k (.ob (.lp .ready none env nt params assign body)))
 | .ret, s => (∃ st pend, Z1m s.H k = some (.ob (.lp st pend env nt params assign body))) /\ Q (.ret (.v (.bool false))) (s.H.set k (.ob (.lp .done (some .ret) env nt params assign body)))
 | .exit id, s => (∃ st pend, Z1m s.H k = some (.ob (.lp st pend env nt params assign body))) /\ Q (.ret (.v (.bool false))) (s.H.set k (.ob (.lp .done (some (.exit id)) env nt params assign body)))
 | _, _ => False
theorem Post.stp {F' : Fz} {μ' : Mu} {H H' : List Blk} {w' : World} (h : Post F μ H w F' μ' H' w') (k : Kp H.length μ H μ' H') (hr : HR F' μ' H' w') (hl : H.length <= H'.length) : Stp F μ H w F' μ' H' w' := ⟨h, hr, hl, k.same, fun i hi => k.mks i (Z2p hi) hi⟩
theorem Zpn {k nt : Nat} {as : List D} {H : List Blk} {env : List (Nat × D)} {params : List Nat} {assign body : Code} {Q : RA -> List Blk -> Prop} (hk : Z1m H k = some (.ob (.lp .ready none env nt params assign body))) (hl : params.length = as.length) (hp : ∀ t ∈ params, t < nt)
  (h : ∀ b, WpA P (some b) H.length assign (Zb1 (fun s => Z1m s.H k = some (.ob (.lp .ready none env nt params assign body)) /\ WpA P (some b) H.length body (Zrx k params env nt assign body Q) { s with H := s.H.set k (.ob (.lp .busy none env nt params assign body)) }) (fun _ _ => False))
   { env := Zo5 params as env, H := H, nt := nt, dfs := [] }) : RoundA P k as H Q := by
 refine ⟨fun r F μ vs w b m hr hμ hal hv => ?_⟩;have hok := Z42 hk;obtain ⟨b', rec, h1, h2, h3, h4, h5, h6, h8, h9, h10, h7⟩ := hr.obj k _ hok (by rw [hμ]; simp);rw [hμ] at h1; cases h1;have hsz : vs.size = rec.params.size := by rw [<- hal, <- hl, <- h5]; simp
 have hrun := run_yield (P := P) h2 hsz;refine ⟨_, _, _, _, hrun, ?_⟩;obtain ⟨q1, q2⟩ := Ze0 (F := F) (μ := μ) params as vs.toList env rec.tmps h10 (by simpa using hal) (fun i d v a c => hv i d v a (by simpa using c)) (by rw [h9]; exact hp) hl;have hfold : (rec.params.zip vs).foldl (fun tmps (x : Nat × Value) => tmps.setIfInBounds x.1 x.2) rec.tmps = (params.zip vs.toList).foldl (fun tmps (x : Nat × Value) => tmps.setIfInBounds x.1 x.2) rec.tmps := by
  rw [<- h5, <- Array.toList_zip, Array.foldl_toList]
 refine Z20k ?_;rw [h6, h8];have hfold' : (rec.params.zip vs).foldl (fun tmps (x : Tmp × Value) => match x with | (t, a) => tmps.setIfInBounds t a) rec.tmps = (params.zip vs.toList).foldl (fun tmps (x : Nat × Value) => tmps.setIfInBounds x.1 x.2) rec.tmps := hfold;rw [hfold'];refine Z1us ((h b).out F μ _ w ⟨hr, ⟨q1, by rw [q2, h9], rfl⟩, Nat.le_refl _⟩) fun e a1 w1 hq => ?_;obtain ⟨F1, μ1, s1, x1, p1, p2, p3, p4, p5⟩ := hq
 cases e <;> cases x1 <;> try exact p4.elim
 case normal.normal =>
  obtain ⟨g1, g2⟩ := p5;intro n0;have p1 := p1.toAt n0;have p3 := p3.at n0
  revert p1 p3
  generalize w1.at n0 = w1
  intro p1 p3;have gk := Z42 g1;have hμ1 : μ1 k = some (some (b, 0)) := by rw [p2.same k (Z2p hok)]; exact hμ
  obtain ⟨b2, rec1, i1, i2, i3, i4, i5, i6, i8, i9, i10, i7⟩ := p3.hr.obj k _ gk (by rw [hμ1]; simp);rw [hμ1] at i1; cases i1;refine ⟨_, run_beginRound (P := P) i2 i3, ?_⟩;obtain ⟨u1, u2⟩ := Zbc p3.hr (y := .lp .busy none env nt params assign body) (o := .loop { rec1 with state := .busy }) gk hμ1 i7 (w' := w1.putObj b (.loop { rec1 with state := .busy })) rfl rfl rfl rfl (fun hb => ⟨b, _, hμ1, hb, rfl, i4, i5, i6, i8, i9, i10, i7⟩);have hmk : ∀ i, Z13 s1.H i = some .mk -> Z13 (s1.H.set k (.ob (.lp .busy none env nt params assign body))) i = some .mk := fun i hi => Z48 (y := .mk) gk (by intro e; cases e) _ hi;have hrl : RL H.length F1 μ1 { s1 with H := s1.H.set k (.ob (.lp .busy none env nt params assign body)) } a1 (w1.putObj b (.loop { rec1 with state := .busy })) :=
   ⟨u1, ⟨p3.er.env, p3.er.nt, p3.er.dfs.mono (fun _ _ _ e => e) (fun _ _ e => e) (fun i hi => ⟨hmk i hi, fun _ e => e⟩)⟩, by simpa using p3.len⟩
  refine Z1us (g2.out _ _ _ _ hrl) fun e a2 w2 hq2 => ?_;obtain ⟨F2, μ2, s2, x2, t1, t2, t3, t4, t5⟩ := hq2;have post2 := (p1.trans u2).trans t1;have keep2 := (p2.trans (.ob hmk)).trans t2;have fin : ∀ (jump : Option Code) (st' : LoopState) , (∃ st pend, Z1m s2.H k = some (.ob (.lp st pend env nt params assign body))) -> st' = (if jump.isNone then .ready else .done) -> Q (.ret (.v (.bool jump.isNone))) (s2.H.set k (.ob (.lp st' jump env nt params assign body))) ->
    ∀ n, ∃ v w', (Instr.endRound b jump).run P (w2.at n) = .ok v w' /\ Zb7 F μ H w Q (.returned v) w' := fun jump st' ⟨st, pend, hkb⟩ hst hq n1 => by
   have t3 := t3.at n1;have post2 := post2.toAt n1
   revert t3 post2
   generalize w2.at n1 = w2
   intro t3 post2;have gk2 := Z42 hkb;have hμ2 : μ2 k = some (some (b, 0)) := by rw [keep2.same k (Z2p hok)]; exact hμ
   obtain ⟨b3, rec2, j1, j2, j3, j4, j5, j6, j8, j9, j10, j7⟩ := t3.hr.obj k _ gk2 (by rw [hμ2]; simp);rw [hμ2] at j1; cases j1;obtain ⟨v1, v2⟩ := Zbc t3.hr (y := .lp st' jump env nt params assign body) (o := .loop { rec2 with state := if jump.isNone then .ready else .done, pending := jump }) gk2 hμ2 j7 (w' := w2.putObj b (.loop { rec2 with state := if jump.isNone then .ready else .done, pending := jump })) rfl rfl rfl rfl (fun hb => ⟨b, _, hμ2, hb, hst.symm, rfl, j5, j6, j8, j9, j10, j7⟩);have hmk2 : ∀ i, Z13 s2.H i = some .mk -> Z13 (s2.H.set k (.ob (.lp st' jump env nt params assign body))) i = some .mk := fun i hi => Z48 (y := .mk) gk2 (by intro e; cases e) _ hi;exact ⟨_, _, run_endRound jump j2, F2, μ2, _, _, (post2.trans v2).stp (keep2.trans (.ob hmk2)) v1 (by simpa using t3.len), .cl _ _ (.v _ rfl), hq⟩
  cases e <;> cases x2 <;> try exact t4.elim
  case normal.normal => exact fin none .ready t5.1 rfl t5.2
  case ret.ret => exact fin (some .ret) .done t5.1 rfl t5.2
  case exit.exit i j =>
   obtain rfl : i = j := t4;exact fin (some (.exit i)) .done t5.1 rfl t5.2
  all_goals exact t5.elim
 all_goals exact p5.elim
theorem Zpo {o : Oper} {s : St} {K : D -> List Blk -> List AD -> Prop} {X : D -> List Blk -> Prop} {c : Call} {fo : Operand} {k k' : Nat} {as0 as' : List D} {ix : List Nat} {Hf : List Blk}
  (ho : o.op = .call c) (hc : c.callee = .value fo) (hfo : evo s.env fo = some (.yv k')) (hkk : Z9f ix k = some k') (has : Z34 (c.args.toList.map (evo s.env)) = some as0) (hren : renL (rho ix s.H.length) as' = as0)
  (hnd : ix.Nodup) (hl : Z62 (rho ix s.H.length) s.H ix Hf)
  (h : RoundA P k as' Hf (fun x Hf' => match x with | .ret d => K (renD (rho ix s.H.length) d) (Z10 s.H ix Hf') s.dfs | .pan d => X (renD (rho ix s.H.length) d) (Z10 s.H ix Hf'))) : OpA P r o s K X := by
 refine ⟨fun F μ a w hr he next Q hn hp => ?_⟩;have hlent : Lent s.H ix Hf := ⟨hnd, (Z11 hl).1, (Z11 hl).2, Zab (Z11 hl).1 (Z11 hl).2 hr⟩;have hfv := he.evo hfo;obtain ⟨b, m, hfe, hμ⟩ : ∃ b m, a.eval fo = .func (.yield b) #[] #[] /\ μ k' = some (some (b, m)) := by
  generalize a.eval fo = y at hfv
  cases hfv with
  | cl _ _ hc => cases hc
  | yv _ b m h => exact ⟨b, m, rfl, h⟩
 have hav := Zjr he has;have hlen := hav.len;simp at hlen;rw [Z8i] at hkk;obtain ⟨fn, tmps, assign, body, hy, hround⟩ := h.out r F (μ.ren (rho ix s.H.length)) (c.args.map a.eval) w b m (Zac hlent hr) (by rw [Mu.ren_loc, Z4r hkk]; exact hμ) (by
   have h1 := congrArg List.length hren
   rw [Zk] at h1
   rw [h1]; simp; omega) (fun i d v hd hv => by
   have h1 : as0[i]? = some (renD (rho ix s.H.length) d) := by rw [<- hren, Z1g, hd]; rfl
   exact Z2x (hav.get i _ v h1 (by simpa using hv)) d rfl)
 have hrun : (o.semAt r a.eval).run P w = .ok (.round b fn tmps assign body) w := by
  rw [Oper.semAt_eq r a.eval o (fun c e => by rw [ho] at e; cases e)];unfold execOp;rw [ho];simp only [resolve, hc, hfe, Deferred.ofValue, Sem.run_bind, Sem.run_pure, Result.andThen_ok, invoke, Array.empty_append];exact hy
 refine ⟨?_, ?_⟩
 ·rw [Oper.semAt_eq r a.eval o (fun c e => by rw [ho] at e; cases e)];unfold execOp;rw [ho];simp only [resolve, hc, hfe, Deferred.ofValue, Sem.events_bind, Sem.run_pure, Sem.events_pure, Result.evThen_ok, invoke, Array.empty_append];exact (Z210 _ _).quiet _
 rw [hrun, Z211];refine Z1wt.mono hround fun e w' he' => ?_
 cases e with
 | returned v =>
  obtain ⟨F', μ', H', d, hs, hv, hq⟩ := he';have hst := Z6q hlent hr hs;have hmu := Z9g (μ := μ) hlent hs.same;exact hn F' _ _ w' s.dfs _ _ v hst (hst.adr hr he.dfs) (Z6p (by rw [hmu]; exact hv)) hq
 | panicked ch =>
  obtain ⟨F', μ', H', d, v, hs, rfl, hv, hq⟩ := he';have hst := Z6q hlent hr hs;have hmu := Z9g (μ := μ) hlent hs.same;exact hp F' _ _ w' _ v hst (Z6p (by rw [hmu]; exact hv)) hq
 | outgrown => exact he'.elim
end
end Go.Abs
