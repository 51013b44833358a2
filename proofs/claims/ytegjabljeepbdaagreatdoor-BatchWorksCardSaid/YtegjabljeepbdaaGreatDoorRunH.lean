/- Part RunH of the proofs about the benches of the accordion maker: see the last text of the claim for what is proved. -/
import Derived.LoopNIn
import Derived.Test.YtegjabljeepbdaaGreatDoorRunF
set_option linter.unusedVariables false
set_option linter.unusedSimpArgs false
set_option linter.unnecessarySimpa false
set_option linter.constructorNameAsVariable false

namespace Go.Abs
open Go
theorem bm {b : Bool} {X Y : Prop} (h1 : b = true -> X) (h2 : b = false -> Y) : (match (generalizing := false) b with | true => X | false => Y) := by
 cases b
 ·exact h2 rfl
 ·exact h1 rfl
section
variable {P : Program} {T : TT} {r : Option Nat} {m : Nat} {ops : Array Oper} {Q : AX -> St -> Prop} {s : St}
theorem Zbm {A : Ar} (hA : A = ar) {Dk : List Nat -> List (Nat × PK) -> St -> Prop} (hD : Dk = DrawA P T r m ops Q) {i : Nat} {L : List Nat} {pend : List (Nat × PK)} {o oj : Oper} {c : Call} {fo : Operand} {f : FuncId} {j t : Nat} {want b : Bool}
  (hoi : ops[i]? = some o) (hd : Z36 s.nt o.dst = true) (hlk : Z4s ops o pend = true) (hw : Z2l ops o (Z1j o pend) = true) (hrd : Z8n ops i L = true) (hg : o.guard = some (j, want)) (hj : ops[j]? = some oj) (hjd : oj.dst = some t) (hb : Z1c (s.only (o.looksAt ops)).env t = some (.v (.bool b))) (ho : o.op = .call c) (hc : c.callee = .value fo)
  (hyes : b = want -> ∃ caps as0 as' ix Hf, evo (rE s.env (o.looksAt ops)) fo = some (.fn f caps) /\ Z34 (c.args.toList.map (evo (rE s.env (o.looksAt ops)))) = some as0 /\ renL (rho ix s.H.length) as' = as0 ++ caps /\ ix.Nodup /\ Z62 (rho ix s.H.length) s.H ix Hf /\
   CallA P f as' Hf (fun x Hf' => match x with | .ret d => Z7f A T ops (s.step o.dst (renD (rho ix s.H.length) d) (Z10 s.H ix Hf') s.dfs) (Z1j o pend) /\ DrawA P T r m ops Q L (Z1j o pend) (s.step o.dst (renD (rho ix s.H.length) d) (Z10 s.H ix Hf') s.dfs) | .pan _ => False))
  (hno : b ≠ want -> Z7f A T ops (s.step o.dst (.tup []) s.H s.dfs) (Z1j o pend) /\ DrawA P T r m ops Q L (Z1j o pend) (s.step o.dst (.tup []) s.H s.dfs)) : Dk (i :: L) pend s := by
 subst hA; subst hD;refine Z5p hoi hd hlk hw hrd ?_;have run : b = want -> OpA P r o (s.only (o.looksAt ops)) (fun d H' ds => Z7v ar T ops (fun p s => DrawA P T r m ops Q L p s) (Z1j o pend) (s.step o.dst d H' ds)) (fun d H' => ∀ e, Q (.pan d) { env := e, H := H', nt := s.nt, dfs := s.dfs }) := fun e => by
  obtain ⟨caps, as0, as', ix, Hf, hfo, has, hren, hnd, hl, h⟩ := hyes e;refine Z7t (s := s.only (o.looksAt ops)) ho hc hfo has hren hnd hl ⟨h.fn, fun F μ vs w h1 h2 h3 => CallsIn.mono (h.out F μ vs w h1 h2 h3) fun e w' he => ?_⟩
  cases e with
  | returned v => exact he
  | panicked ch => obtain ⟨_, _, _, _, _, _, _, _, hf⟩ := he; exact hf.elim
  | outgrown => exact he.elim
 simp only [Zh, hg, hj, hjd, hb]
 cases want <;> cases b <;> simp only [Z3l hb]
 ·exact run rfl
 ·exact hno (by decide)
 ·exact hno (by decide)
 ·exact run rfl
end
end Go.Abs

namespace Go.Abs
open Go
def vcE (A : Ar) (T : TT) (ops : Array Oper) (Kend : St -> Prop) (sp : List Nat) (Dk : List Nat -> List (Nat × PK) -> St -> Prop) : List Nat -> List (Nat × PK) -> St -> Prop
 | [], _, s => Kend s
 | i :: L, pend, s =>
  match Z7a sp i with
  | true => Dk (i :: L) pend s
  | false =>
  match ops[i]? with
  | none => False
  | some o =>
   match Z36 s.nt o.dst, Z4s ops o pend with
   | true, true =>
    match Zr4 o.op, Z2l ops o pend && Zdz ops o with
    | 1, true => Zh ops s o (fun s => match Zo1 (s.only (o.looksAt ops)) o.op with
      | true => Z1q A T (s.only (o.looksAt ops)) (fun d => vcE A T ops Kend sp Dk L ((i, .val d) :: pend) (s.step o.dst d s.H s.dfs)) o.op
      | false => False) (fun s => vcE A T ops Kend sp Dk L ((i, .val (.tup [])) :: pend) (s.step o.dst (.tup []) s.H s.dfs))
    | 2, true => Zh ops s o (fun s => Z5g A T (s.only (o.looksAt ops)) (fun x mk => vcE A T ops Kend sp Dk L ((i, .alc s.H.length x (mk s.H.length)) :: pend) (s.step o.dst (mk s.H.length) (s.H ++ [x]) s.dfs)) o.op)
      (fun s => vcE A T ops Kend sp Dk L ((i, .val (.tup [])) :: pend) (s.step o.dst (.tup []) s.H s.dfs))
    | 1, false =>
     match Z2l ops o (Z1j o pend), Z8n ops i L with
     | true, true => Zh ops s o (fun s => Z1q A T (s.only (o.looksAt ops)) (fun d => Z7v A T ops (fun p s => vcE A T ops Kend sp Dk L p s) (Z1j o pend) (s.step o.dst d s.H s.dfs)) o.op) (fun s => Z7v A T ops (fun p s => vcE A T ops Kend sp Dk L p s) (Z1j o pend) (s.step o.dst (.tup []) s.H s.dfs))
     | _, _ => False
    | 3, _ =>
     match Z2l ops o (Z1j o pend), Z8n ops i L with
     | true, true => Zh ops s o (fun s => wA A T (s.only (o.looksAt ops)) (fun d H' => Z7v A T ops (fun p s => vcE A T ops Kend sp Dk L p s) (Z1j o pend) (s.step o.dst (d.getD (.tup [])) H' s.dfs)) o.op) (fun s => Z7v A T ops (fun p s => vcE A T ops Kend sp Dk L p s) (Z1j o pend) (s.step o.dst (.tup []) s.H s.dfs))
     | _, _ => False
    | _, _ => Dk (i :: L) pend s
   | _, _ => False
section
variable {P : Program} {T : TT} {r : Option Nat} {m : Nat} {ops : Array Oper} {Q : AX -> St -> Prop} {s : St} {A : Ar}
theorem Z6s (hT : TOK P T) {Kend : St -> Prop} (hK : ∀ s, Kend s -> Q .normal s) {sp : List Nat} {Dk : List Nat -> List (Nat × PK) -> St -> Prop} (hD : ∀ L pend s, Dk L pend s -> DrawA P T r m ops Q L pend s) : ∀ (L : List Nat) (pend : List (Nat × PK)) (s : St), vcE ar T ops Kend sp Dk L pend s -> DrawA P T r m ops Q L pend s
 | [], pend, s, h => .done (hK s h)
 | i :: L, pend, s, h => by
  simp only [vcE] at h
  split at h
  ·exact hD _ _ _ h
  have aft : ∀ {p : List (Nat × PK)} {s : St}, Z7v ar T ops (fun p s => vcE ar T ops Kend sp Dk L p s) p s -> Z7v ar T ops (fun p s => DrawA P T r m ops Q L p s) p s := fun h => ⟨h.1, Z6s hT hK hD L _ _ h.2⟩
  split at h
  ·exact h.elim
  ·rename_i o ho
   split at h
   ·rename_i hd hl
    have skip : ∀ {d : D}, d = .tup [] -> (Z2l ops o pend && Zdz ops o) = true -> (∀ K1 K2 : St -> Prop, K2 s -> Zh ops s o K1 K2) -> vcE ar T ops Kend sp Dk L ((i, .val d) :: pend) (s.step o.dst d s.H s.dfs) -> DrawA P T r m ops Q (i :: L) pend s := fun {d} e hws hg hk => by
     subst e;simp only [Bool.and_eq_true] at hws;exact .val ho hd (Z23 hl) (Z1t hws.1) (Z3s hws.2) (Z4n hg rfl) (Z6s hT hK hD L _ _ hk)
    split at h
    ·rename_i hws
     rcases Z3q h with ⟨hk, hg⟩ | ⟨hk, hg⟩
     ·split at hk
      ·rename_i hdet
       obtain ⟨d, h1, h2⟩ := Zk4 hdet hk;simp only [Bool.and_eq_true] at hws;exact .val ho hd (Z23 hl) (Z1t hws.1) (Z3s hws.2) (Z3r hg h2) (Z6s hT hK hD L _ _ h1)
      ·exact hk.elim
     ·exact skip rfl hws hg hk
    ·rename_i hws
     rcases Z3q h with ⟨hk, hg⟩ | ⟨hk, hg⟩
     ·obtain ⟨x, mk, h1, h2, h3⟩ := Zka hk hT;simp only [Bool.and_eq_true] at hws;have hw := Z1t hws.1;refine .alc ho hd (Z23 hl) hw (Z3s hws.2) h2 (Z3r hg (Zh1 h3 fun y mk' e => ⟨e.1, by rw [e.2]⟩)) (fun u hu hok => Zo4 (fun o' t h1 h2 => hw.out u hu o' t h1 h2) hok) (Z6s hT hK hD L _ _ h1)
     ·exact skip rfl hws hg hk
    ·split at h
     ·rename_i hw hr
      refine Z5p ho hd hl hw hr ?_;rcases Z3q h with ⟨hk, hg⟩ | ⟨hk, hg⟩
      ·refine Z3r hg ?_;have := Zeg (P := P) (r := r) (o := o) (s := s.only (o.looksAt ops)) (K := fun d H' ds => Z7v ar T ops (fun p s => vcE ar T ops Kend sp Dk L p s) (Z1j o pend) (s.step o.dst d H' ds)) (X := fun _ _ => False) hT hk;exact this.mono (fun d H ds hk => aft hk) (fun _ _ h => h.elim)
      ·exact Z4n hg (aft hk)
     ·exact h.elim
    ·split at h
     ·rename_i hw hr
      refine Z5p ho hd hl hw hr ?_;rcases Z3q h with ⟨hk, hg⟩ | ⟨hk, hg⟩
      ·refine Z3r hg ?_;have := Zgs (P := P) (r := r) (o := o) (s := s.only (o.looksAt ops)) (K := fun d H' ds => Z7v ar T ops (fun p s => vcE ar T ops Kend sp Dk L p s) (Z1j o pend) (s.step o.dst d H' ds)) (X := fun _ _ => False) hT hk;exact this.mono (fun d H ds hk => aft hk) (fun _ _ h => h.elim)
      ·exact Z4n hg (aft hk)
     ·exact h.elim
    ·exact hD _ _ _ h
   ·exact h.elim
theorem Z5j (hT : TOK P T) {A : Ar} (hA : A = ar) {S : Stop} (hS : S = Zo P r m) (sp L : List Nat) {id : Nat} (hE : Zim ops = true) (hL : Zh0 ops.size L = true)
  (h : ∀ Dk, Dk = DrawA P T r m ops Q -> vcE A T ops (Q .normal) sp Dk L [] s) : S.code (.region id ops true) Q s := by
 subst hA; subst hS;exact Zk9 hT hE hL (Z6s hT (fun _ h => h) (fun _ _ _ h => h) L [] s (h _ rfl))
theorem Z63 (hT : TOK P T) {A : Ar} (hA : A = ar) {Dk : List Nat -> List (Nat × PK) -> St -> Prop} (hD : Dk = DrawA P T r m ops Q) (sp : List Nat) {L : List Nat} {pend : List (Nat × PK)} (h : vcE A T ops (Q .normal) sp Dk L pend s) : DrawA P T r m ops Q L pend s := by
 subst hA; subst hD;exact Z6s hT (fun _ h => h) (fun _ _ _ h => h) L pend s h
theorem Z9n (hT : TOK P T) {A : Ar} (hA : A = ar) {Dk : List Nat -> List (Nat × PK) -> St -> Prop} (hD : Dk = DrawA P T r m ops Q) (sp : List Nat) {i : Nat} {L : List Nat} {pend : List (Nat × PK)} {o : Oper} (d : D)
  (hoi : ops[i]? = some o) (hd : Z36 s.nt o.dst = true) (hlk : Z4s ops o pend = true) (hw : Z2l ops o pend = true) (hs : Zdz ops o = true) (hg : o.guard = none)
  (hv : Z1q A T (s.only (o.looksAt ops)) (fun x => x = d) o.op) (h : vcE A T ops (Q .normal) sp Dk L ((i, .val d) :: pend) (s.step o.dst d s.H s.dfs)) : Dk (i :: L) pend s := by
 have h2 := Z63 hT hA hD sp h;subst hA; subst hD;refine .val hoi hd (Z23 hlk) (Z1t hw) (Z3s hs) ?_ h2;unfold Z9i;simp only [Zh, hg];exact hv
end
end Go.Abs

namespace Go.Abs
open Go
def Zoa (P : Program) (r : Option Nat) (m : Nat) (c : Code) (Q : AX -> St -> Prop) : Nat -> St -> Prop
 | 0, _ => False
 | k + 1, s => WpA P r m c (Zb1 (Zoa P r m c Q k) Q) s
section
variable {P : Program} {T : TT} {r : Option Nat} {m : Nat} {Q : AX -> St -> Prop} {s : St}
theorem Z16g {c : Code} : ∀ (k : Nat) (s : St), Zoa P r m c Q k s -> ∀ F μ a w, RL m F μ s a w -> Code.roundsIn (Fc r) 0 P c (Z4f F μ s.H w m Q) k a w
 | 0, _, h => h.elim
 | k + 1, s, h => fun F μ a w h1 => by
  refine wpIn_mono (h.out F μ a w h1) fun e a' w' hp => ?_;refine hp.thenA fun F' μ' s' p1 p2 p3 p5 => ?_;have := Z16g k s' p5 F' μ' a' w' p3;exact rounds_mono _ (fun e a w hq => hq.trans p1 p2) _ _ this
 where
 rounds_mono {c : Code} {Q1 Q2 : Exit -> Act -> World -> Prop} : ∀ (k : Nat), (∀ e a w, Q1 e a w -> Q2 e a w) -> ∀ a w, Code.roundsIn (Fc r) 0 P c Q1 k a w -> Code.roundsIn (Fc r) 0 P c Q2 k a w
  | 0, _, _, _, h => h.elim
  | k + 1, hq, a, w, h => wpIn_mono h fun e a' w' hp => by
   cases e
   case normal => exact rounds_mono k hq _ _ hp
   all_goals exact hq _ _ _ hp
theorem Z16h {c : Code} (k : Nat) (h : Zoa P r m c Q k s) : WpA P r m (.loop c) Q s := ⟨fun F μ a w h1 => wpIn_loop_rounds k (Z16g k s h F μ a w h1)⟩
structure RnA (P : Program) (r : Option Nat) (m : Nat) (c : Code) (Q : AX -> St -> Prop) (k : Nat) (s : St) : Prop where
 out : Zoa P r m c Q k s
theorem Z198 (hT : TOK P T) {A : Ar} (hA : A = ar) {S : Stop} (hS : S = Zo P r m) {c : Code} {Rn : Nat -> St -> Prop} (hR : Rn = RnA P r m c Q) {k : Nat} (h : vcC A T S c (Zb1 (Rn k) Q) s) : Rn (k + 1) s := by
 subst hA; subst hS; subst hR;refine ⟨Z94 (Z4a hT c _ s h) fun x s' hx => ?_⟩
 cases x
 case normal => exact RnA.out hx
 all_goals exact hx
end
end Go.Abs

namespace Go
section
variable {P : Program} {b : Frame} {a : Act} {k : List Item} {cs : List Frame} {w : World} {Q : Exit -> Act -> World -> Prop}
theorem Z54 {c : Code} : step P (lone (b.atR a (.code (.scope c) :: k)) cs w) = .next (lone (b.atR a (.code c :: .inScope c :: k)) cs w) :=
 step_lone_go (by simp [stepG, stepG.exec, Frame.atR])
theorem Zgc {c : Code} : step P (lone (b.atR a (.inScope c :: k)) cs w) = .next (lone (b.atR a k) cs w) :=
 step_lone_go (by simp [stepG, stepG.exec, Frame.atR])
def Zus (Q : Exit -> Act -> World -> Prop) : Exit -> Act -> World -> Prop
 | .goto _, _, _ => False
 | e, a, w => Q e a w
theorem Zmo {F : Fence} {n : Nat} {c : Code} (h : c.wpIn F n P (Zus Q) a w) : (Code.scope c).wpIn F n P Q a w := by
 intro b k cs hro hb hr;have h0 : (lone (b.atR a (.code (.scope c) :: k)) cs w).fenced P F := fenced_calm hb hr rfl;obtain ⟨e, a₁, w₁, hq, harr⟩ := h b (.inScope c :: k) cs hro hb hr
 cases e with
 | normal => exact ⟨.normal, a₁, w₁, hq, .head h0 Z54 (StepsIn.trans harr (.one (fenced_calm hb hr rfl) Zgc))⟩
 | exit id =>
  have hx : exitTo id (.inScope c :: k) = exitTo id k := by simp [exitTo]
  exact ⟨_, a₁, w₁, hq, fun k' hk => .head h0 Z54 (harr.1 k' (by rw [hx]; exact hk)),
   fun hr' hk => let ⟨k₁, h1, h2⟩ := harr.2 hr' (by rw [hx]; exact hk); ⟨k₁, h1, .head h0 Z54 h2⟩⟩
 | goto l => exact hq.elim
 | ret => exact ⟨_, a₁, w₁, hq, .of_steps (.one h0 Z54) harr⟩
 | panic ch => exact ⟨_, a₁, w₁, hq, .of_steps (.one h0 Z54) harr⟩
 | outgrown => exact ⟨_, a₁, w₁, hq, .of_steps (.one h0 Z54) harr⟩
end
namespace Abs
section
variable {P : Program} {T : TT} {r : Option Nat} {m : Nat} {Q : AX -> St -> Prop} {s : St}
def Zob (Q : AX -> St -> Prop) : AX -> St -> Prop
 | .goto _, _ => False
 | x, s => Q x s
theorem Zpr {c : Code} (h : WpA P r m c (Zob Q) s) : WpA P r m (.scope c) Q s :=
 ⟨fun F μ a w h1 => Zmo (wpIn_mono (h.out F μ a w h1) fun e a' w' hp => by
  obtain ⟨F', μ', s', x, p1, p2, p3, p5, p6⟩ := hp
  cases e <;> cases x <;> try exact p5.elim
  case goto.goto => exact p6.elim
  all_goals exact ⟨F', μ', s', _, p1, p2, p3, p5, p6⟩)⟩
theorem Zs7 (hT : TOK P T) {A : Ar} (hA : A = ar) {S : Stop} (hS : S = Zo P r m) {c : Code} (h : vcC A T S c (Zob Q) s) : S.code (.scope c) Q s := by
 subst hA; subst hS;exact Zpr (Z4a hT c _ s h)
end
end Abs
end Go

namespace Go.Abs
open Go
section
variable {P : Program} {T : TT} {F : Fz} {μ : Mu} {w : World} {r : Option Nat} {m : Nat} {Q : AX -> St -> Prop}
theorem Zut {H : List Blk} {K : D -> List Blk -> Prop} (sz : Nat) (hm : m <= H.length) (h : GhA m (.o H.length sz 0) (H ++ [.els sz []]) K) : GhA m (.v (.slice none 0 0)) H K := ⟨fun F μ w v hr hv => by
 obtain ⟨q1, q2, q3⟩ := Zc5 hr (sz := sz) (hr.dom _ (Nat.le_refl _)) (Nat.le_refl _)
 rw [Z6y] at q1 q2
 obtain rfl := hv.v_inv
 obtain ⟨F', μ', H', d', k1, k2, k3, k4, k5, k6⟩ := h.out F _ w _ q1 (.oNil _ _ none (Z2f _ _ _))
 exact ⟨F', μ', H', d', q2.trans k1, k2, Kp.trans ⟨fun i hi => by rw [Z2k _ (by omega)], fun i _ hk => Mks.app _ _ _ _ _ i hk⟩ k3, k4, fun h => k5 (by simp; omega), k6⟩⟩
theorem WkD.eq {d d' : D} (e : d = d') : WkD d d' := ⟨fun F μ v h => e ▸ h⟩
end
end Go.Abs

namespace Go.Abs
open Go
section
variable {P : Program} {T : TT} {r : Option Nat} {m : Nat}
theorem Zh2 (hT : TOK P T) {A : Ar} (hA : A = ar) {k nt : Nat} {as : List D} {H : List Blk} {env : List (Nat × D)} {params : List Nat} {assign body : Code} {Q : RA -> List Blk -> Prop} (hk : Z1m H k = some (.ob (.lp .ready none env nt params assign body))) (hl : params.length = as.length) (hp : ∀ t ∈ params, t < nt)
  (h : ∀ b S, S = Zo P (some b) H.length -> vcC A T S assign (Zb1 (fun s => Z1m s.H k = some (.ob (.lp .ready none env nt params assign body)) /\ S.code body (Zrx k params env nt assign body Q) { s with H := s.H.set k (.ob (.lp .busy none env nt params assign body)) }) (fun _ _ => False))
   { env := Zo5 params as env, H := H, nt := nt, dfs := [] }) : RoundA P k as H Q := by
 subst hA;exact Zpn hk hl hp fun b => Z4a hT assign _ _ (h b _ rfl)
end
end Go.Abs

namespace Go.Abs
open Go
section
variable {P : Program} {T : TT} {r : Option Nat} {m : Nat} {Q : AX -> St -> Prop}
theorem Z5q (hT : TOK P T) {ops : Array Oper} {K : List Nat -> St -> Prop} {l2 : List Nat} (hK : ∀ l s, K l s -> OpsA P r m ops Q (l ++ l2) s) : ∀ (l : List Nat) (s : St), Z4h ar T ops K l s -> OpsA P r m ops Q (l ++ l2) s
 | [], s, h => hK _ _ h
 | i :: l, s, h => by
  simp only [Z4h] at h
  split at h
  ·exact h.elim
  ·rename_i o ho
   split at h
   ·rename_i hd
    refine Z3k ho hd (Z53 h (fun e hk => ?_) (fun e hk => Z5q hT hK l _ hk));have := Zeg (P := P) (r := r) (o := o) (s := { s with env := e }) (K := fun d H' ds => Z4h ar T ops K l (St.step { s with env := e } o.dst d H' ds)) (X := fun _ _ => False) hT hk;exact this.mono (fun d H ds hk => Z5q hT hK l _ hk) (fun _ _ h => h.elim)
   ·rename_i hd
    refine Z3k ho hd (Z53 h (fun e hk => ?_) (fun e hk => Z5q hT hK l _ hk));have := Znv (P := P) (r := r) (o := o) (s := { s with env := e }) (K := fun d H' ds => Z4h ar T ops K l (St.step { s with env := e } o.dst d H' ds)) (X := fun _ _ => False) hT hk;exact this.mono (fun d H ds hk => Z5q hT hK l _ hk) (fun _ _ h => h.elim)
   ·rename_i hd
    refine Z3k ho hd (Z53 h (fun e hk => ?_) (fun e hk => Z5q hT hK l _ hk));have := Zgs (P := P) (r := r) (o := o) (s := { s with env := e }) (K := fun d H' ds => Z4h ar T ops K l (St.step { s with env := e } o.dst d H' ds)) (X := fun _ _ => False) hT hk;exact this.mono (fun d H ds hk => Z5q hT hK l _ hk) (fun _ _ h => h.elim)
   ·exact hK _ _ h
theorem Zke (hT : TOK P T) {A : Ar} (hA : A = ar) {S : Stop} (hS : S = Zo P r m) {ops : Array Oper} {s : St} (l1 l2 : List Nat)
  (h : Z4h A T ops (fun l s => match l with | [] => S.ops ops Q l2 s | i :: l => S.ops ops Q (i :: l ++ l2) s) l1 s) : OpsA P r m ops Q (l1 ++ l2) s := by
 subst hA; subst hS;refine Z5q hT (fun l s hk => ?_) l1 s h
 cases l with
 | nil => exact hk
 | cons i l => exact hk
end
end Go.Abs

namespace Go.Abs
open Go
def vcF (A : Ar) (T : TT) (S : Stop) (sp : List Nat) : Code -> (AX -> St -> Prop) -> St -> Prop
 | .seq x y, Q, s => vcF A T S sp x (Zb1 (vcF A T S sp y Q) Q) s
 | .skip, Q, s => Q .normal s
 | .label _, Q, s => Q .normal s
 | .ret, Q, s => Q .ret s
 | .exit id, Q, s => Q (.exit id) s
 | .block id c, Q, s => vcF A T S sp c (Zi3 id Q) s
 | .region id ops false, Q, s => match Z7a sp id with
  | true => S.code (.region id ops false) Q s
  | false => Z4h A T ops (fun l s => match l with | [] => Q .normal s | i :: l => S.ops ops Q (i :: l) s) (List.range ops.size) s
 | .cond c x y, Q, s => Zfc s c (vcF A T S sp x Q) (vcF A T S sp y Q)
 | c, Q, s => S.code c Q s
section
variable {P : Program} {T : TT} {r : Option Nat} {m : Nat} {Q : AX -> St -> Prop}
theorem Z5r (hT : TOK P T) {sp : List Nat} : ∀ (c : Code) (Q : AX -> St -> Prop) (s : St), vcF ar T (Zo P r m) sp c Q s -> WpA P r m c Q s
 | .seq x y, Q, s, h => by
  simp only [vcF] at h;refine Znq (Z94 (Z5r hT x _ s h) fun a s hq => ?_)
  cases a <;> first | exact Z5r hT y Q _ hq | exact hq
 | .skip, Q, s, h => Zje (by simpa only [vcF] using h)
 | .label l, Q, s, h => Zgi (by simpa only [vcF] using h)
 | .ret, Q, s, h => Znr (by simpa only [vcF] using h)
 | .exit id, Q, s, h => Zjf (by simpa only [vcF] using h)
 | .block id c, Q, s, h => Zgj (Z5r hT c _ s (by simpa only [vcF] using h))
 | .region id ops false, Q, s, h => by
  simp only [vcF] at h
  split at h
  ·simpa only [Zo] using h
  refine Zbh (Z3v hT (fun l s hk => ?_) _ _ h)
  cases l with
  | nil => exact Zf6 hk
  | cons i l => exact hk
 | .region id ops true, Q, s, h => by simpa only [vcF, Zo] using h
 | .cond c x y, Q, s, h => by
  simp only [vcF] at h;exact Zdw (Zfd h (fun s h => Z5r hT x Q s h) (fun s h => Z5r hT y Q s h))
 | .loop c, Q, s, h => by simpa only [vcF, Zo] using h
 | .scope c, Q, s, h => by simpa only [vcF, Zo] using h
 | .goto l, Q, s, h => by simpa only [vcF, Zo] using h
 | .refuse w, Q, s, h => by simpa only [vcF, Zo] using h
 | .rangeFunc a b c d, Q, s, h => by simpa only [vcF, Zo] using h
theorem Z38 (hT : TOK P T) {A : Ar} (hA : A = ar) (sp : List Nat) {f : FuncId} {fn : Func} {c : Code} (hf : P.funcs[f]? = some fn) (hb : fn.body = some c) (hnm : (fn.name == "runtime.NumGoroutine") = false) {as : List D} {H : List Blk} {Q : RA -> List Blk -> Prop} (hnt : Nat.ble as.length fn.ntmps = true) {rs : List ResultVar} (hrs : fn.results.toList = rs) {nt : Nat} (hnt2 : fn.ntmps = nt)
  (h : ∀ S, S = Zo P none H.length -> vcF A T S sp c (Znx A T rs (ghQ H.length Q)) { env := Zd6 0 as, H := H, nt := nt, dfs := [] }) : CallA P f as H Q := by
 subst hA; subst hrs; subst hnt2;exact Zcb (Zfb hT hf hb hnm hnt (Z5r hT c _ _ (h _ rfl)))
theorem Z2w (hT : TOK P T) {A : Ar} (hA : A = ar) {S : Stop} (hS : S = Zo P r m) (sp : List Nat) {c : Code} {s : St} (h : vcF A T S sp c Q s) : WpA P r m c Q s := by
 subst hA; subst hS; exact Z5r hT c _ _ h
theorem Z4j (hT : TOK P T) {A : Ar} (hA : A = ar) {S : Stop} (hS : S = Zo P r m) {id : Nat} {ops : Array Oper} {s : St} (l1 l2 : List Nat) (hl : List.range ops.size = l1 ++ l2)
  (h : Z4h A T ops (fun l s => match l with | [] => S.ops ops Q l2 s | i :: l => S.ops ops Q (i :: l ++ l2) s) l1 s) : S.code (.region id ops false) Q s := by
 have := Zke hT hA hS l1 l2 h;subst hA; subst hS;refine Zbh ?_;rw [hl]; exact this
theorem Zis (hT : TOK P T) {A : Ar} (hA : A = ar) {S : Stop} (hS : S = Zo P r m) {ops : Array Oper} {s : St} (t : Nat) {d : D} (d' : D) (ht : Z1c s.env t = some d) (e : d = d') (l1 l2 : List Nat)
  (h : Z4h A T ops (fun l s => match l with | [] => S.ops ops Q l2 s | i :: l => S.ops ops Q (i :: l ++ l2) s) l1 { s with env := setE s.env t d' }) : S.ops ops Q (l1 ++ l2) s :=
 Z26 hS (Zo7 t d' ht (WkD.eq e) (Z7 (Zii hS (Zke hT hA hS l1 l2 h))))
end
end Go.Abs

namespace Go.Abs
open Go
end Go.Abs

namespace Go.Abs
open Go
section
variable {P : Program} {T : TT} {r : Option Nat} {m : Nat} {Q : AX -> St -> Prop} {F : Fz} {μ : Mu} {w : World} {K : St -> Prop} {s : St}
theorem Zoc {H : List Blk} {k sz : Nat} {es es' : List D} {x : Blk} (hb : Z17 H k = some (sz, es)) (hx : x.es = some (sz, es')) (hbf : BFr x) (hl : es'.length = es.length) (hc : ∀ c, Z1l F μ sz es c -> Z1l F μ sz es' c) (h : HR F μ H w) :
  HR F μ (H.set k x) w /\ Post F μ H w F μ (H.set k x) w /\ ∀ j y, Z13 H j = some y -> Z13 (H.set k x) j = some y := by
 have hkl := Z7k hb;have hset : ∀ j, (H.set k x)[j]? = if j = k then some x else H[j]? := fun j => by
  have := Z2m (H := H) x (Nat.le_of_lt hkl) j
  rwa [setB, if_pos hkl] at this
 have hno : ∀ y, x.obj = some y -> False := fun y hy => by cases x <;> simp [Blk.es, Blk.obj] at hx hy
 have := Z5e (μ' := μ) (w' := w) (H' := H.set k x) (fun j => j = k) h (by simp) (fun j hj => by rw [hset, if_neg hj]) (fun j _ => rfl) (fun j b _ => Iff.rfl) (fun _ _ _ h => h) (Nat.le_refl _) rfl rfl rfl
  (fun b' hb' hn => rfl) (fun k' b' hk' _ hf => .inl ⟨k, rfl, Z15 hb, by subst hk'; exact hf⟩) (fun k1 k2 b h1 h2 _ _ _ _ => h1.trans h2.symm)
  (fun k' hk' hle' => by subst hk'; simp at hle'; omega) (fun _ k' sz1 es1 hk' hb1 hne => ?_) (fun k' y hk' _ b => by subst hk'; exact h.plain k' _ hb b) (fun _ k' y hk' hy _ => by subst hk'; rw [Z19 (by rw [hset, if_pos rfl])] at hy; exact (hno y hy).elim) (fun k' hk' he => by subst hk'; exact h.non _ he) (fun k' y hk' hy => by
   subst hk'; rw [hset, if_pos rfl] at hy; cases hy; exact hbf)
 ·exact ⟨this.1, this.2.1, fun j y hj => Z95 _ hb hj⟩
 ·subst hk';rw [Z1s (by rw [hset, if_pos rfl]), hx] at hb1
  cases hb1
  rcases h.row k' _ _ hb hne with ⟨e1, e2⟩ | ⟨b, m, c, t, e1, e2, e3, e4, e5⟩
  ·refine .inl ⟨e1, ?_⟩;subst e2
   cases es' with
   | nil => rfl
   | cons => simp at hl
  ·exact .inr ⟨b, m, c, t, e1, e2, e3, by rw [hl]; exact e4, hc c e5⟩
theorem Zod {a : Act} {k sz : Nat} {es es' : List D} {x : Blk} (hb : Z17 s.H k = some (sz, es)) (hx : x.es = some (sz, es')) (hbf : BFr x) (hl : es'.length = es.length) (hc : ∀ c, Z1l F μ sz es c -> Z1l F μ sz es' c) (h : RL m F μ s a w) :
  RL m F μ { s with H := s.H.set k x } a w /\ Post F μ s.H w F μ (s.H.set k x) w /\ Kp m μ s.H μ (s.H.set k x) := by
 obtain ⟨h1, h2, h3⟩ := Zoc hb hx hbf hl hc h.hr;exact ⟨⟨h1, ⟨h.er.env, h.er.nt, h.er.dfs.mono (fun _ _ _ e => e) (fun _ _ e => e) (fun j hj => ⟨h3 j _ hj, fun _ e => e⟩)⟩, by simpa using h.len⟩, h2, .ob fun i hi => h3 i _ hi⟩
theorem Zmp (k : Nat) {sz : Nat} {es : List D} (hk : Z1m s.H k = some (.elo sz es)) (hf : FrL es) (h : GS m K { s with H := s.H.set k (.els sz es) }) : GS m K s :=
 Z4i (fun F μ act w h1 => let ⟨g1, g2, g3⟩ := Zod (x := .els sz es) (Z8e hk) rfl (fun _ _ e => by cases e; exact hf) rfl (fun _ h => h) h1; ⟨F, μ, g2, g3, g1⟩) h
theorem Zs8 (k : Nat) {sz : Nat} {es : List D} (hk : Z1m s.H k = some (.els sz es)) (h : GS m K { s with H := s.H.set k (.elo sz es) }) : GS m K s :=
 Z4i (fun F μ act w h1 => let ⟨g1, g2, g3⟩ := Zod (x := .elo sz es) (Z5f hk) rfl (fun _ _ e => by cases e) rfl (fun _ h => h) h1; ⟨F, μ, g2, g3, g1⟩) h
structure FzP (k2 isz : Nat) (row : List D) (d d' : D) : Prop where
 len : d'.cells.length = d.cells.length
 cel : ∀ (r : Nat) (c' : D), d'.cells[r]? = some c' -> d.cells[r]? = some c' ∨ (d.cells[r]? = some (.o k2 isz row.length) /\ c' = .sl isz row)
theorem FzP.same {k2 isz : Nat} {row : List D} (d : D) : FzP k2 isz row d d := ⟨rfl, fun _ _ h => .inl h⟩
theorem Zuu {k2 isz : Nat} {row es es' : List D} {i : Nat} {d d' : D} (h : FzP k2 isz row d d') (he : es' = es.set i d') (hi : i < es.length -> es[i]? = some d) : es'.length = es.length /\ ∀ (j : Nat) (x' : D), es'[j]? = some x' -> ∃ x, es[j]? = some x /\ FzP k2 isz row x x' := by
 subst he;refine ⟨by simp, fun j x' hx => ?_⟩;rw [List.getElem?_set] at hx
 split at hx
 ·rename_i e; subst e
  split at hx
  ·rename_i hl; cases hx; exact ⟨d, hi hl, h⟩
  ·cases hx
 ·exact ⟨x', hx, .same _⟩
theorem Zps {k sz n : Nat} {v : Value} (h : VR F μ (.o k sz n) v) (F' : Fz) : VR F' μ (.o k sz n) v := by
 cases h with
 | cl _ _ hc => cases hc
 | o _ _ _ b m cap h1 h2 h3 => exact .o _ _ _ b m cap h1 h2 h3
 | oNil _ _ a h1 => exact .oNil _ _ a h1
theorem Zwn {H : List Blk} {k k2 sz isz : Nat} {es es' row : List D} (hk : Z1m H k = some (.elo sz es)) (hk2 : Z1m H k2 = some (.els isz row)) (hp : es'.length = es.length /\ ∀ (j : Nat) (x' : D), es'[j]? = some x' -> ∃ x, es[j]? = some x /\ FzP k2 isz row x x') (hr : HR F μ H w) :
  ∃ F', (∀ b o v, F b o = some v -> F' b o = some v) /\ HR F' μ ((H.set k2 .dead).set k (.elo sz es')) w /\ Post F μ H w F' μ ((H.set k2 .dead).set k (.elo sz es')) w /\ ∀ j y, Z13 H j = some y -> Z13 ((H.set k2 .dead).set k (.elo sz es')) j = some y := by
 obtain ⟨d', rfl, hR⟩ := fzG_sound (kk := [k2]) hr (.o k2 isz row.length) (fun d' => d' = .sl isz row) (by
  simp only [fzG, Z7a, Nat.beq_refl, hk2, and_true]; exact (rfl : row.length = row.length))
 have hl2 : k2 < H.length := Z7k (Z5f hk2);have hne : k2 ≠ k := by rintro rfl; rw [hk] at hk2; cases hk2
 obtain ⟨q1, q2, q3⟩ := Zd7 (kk := [k2]) (H' := H.set k2 .dead) hr (by simp) (fun i x' hx => by
  rw [List.getElem?_set] at hx
  split at hx
  ·rename_i e; subst e
   cases hx
   exact ⟨.els isz row, by rw [<- Z1u]; exact hk2, .inl ⟨by simp, rfl, rfl⟩⟩
  ·rename_i e
   exact ⟨x', hx, .inr ⟨by simpa using fun h => e h.symm, .inl rfl⟩⟩)
 have hb : Z17 (H.set k2 .dead) k = some (sz, es) := by
  have := Z8e hk;unfold Z17 at this ⊢;rw [List.getElem?_set, if_neg hne]; exact this
 obtain ⟨r1, r2, r3⟩ := Zoc (x := .elo sz es') hb rfl (fun _ _ e => by cases e) hp.1 (fun c hc j x' hx => by
  obtain ⟨x, hx0, hf⟩ := hp.2 j x' hx
  obtain ⟨g1, g2⟩ := hc j x hx0
  refine ⟨by rw [hf.len]; exact g1, fun rr c' hc' => ?_⟩
  rcases hf.cel rr c' hc' with e | ⟨e, rfl⟩
  ·exact g2 rr c' e
  ·obtain ⟨v, v1, v2, v3⟩ := g2 rr _ e
   exact ⟨v, v1, v2, hR.val v (Zps v3 _)⟩) q1
 exact ⟨_, Z2y, r1, q2.trans r2, fun j y hj => r3 j y (q3 j y hj)⟩
theorem Zs9 (k k2 : Nat) {sz isz : Nat} {es es' row : List D} (hk : Z1m s.H k = some (.elo sz es)) (hk2 : Z1m s.H k2 = some (.els isz row)) (hp : es'.length = es.length /\ ∀ (j : Nat) (x' : D), es'[j]? = some x' -> ∃ x, es[j]? = some x /\ FzP k2 isz row x x')
  (h : GS m K { s with H := (s.H.set k2 .dead).set k (.elo sz es') }) : GS m K s := by
 refine Z4i (s' := { s with H := (s.H.set k2 .dead).set k (.elo sz es') }) (fun F μ act w h1 => ?_) h;obtain ⟨F', hm, r1, r2, hob⟩ := Zwn hk hk2 hp h1.hr;refine ⟨_, μ, r2, .ob fun i hi => hob i _ hi, r1, ⟨fun t d ht => ?_, h1.er.nt, h1.er.dfs.mono hm (fun _ _ e => e) (fun j hj => ⟨hob j _ hj, fun _ e => e⟩)⟩, by simpa using h1.len⟩;obtain ⟨v, v1, v2⟩ := h1.er.env t d ht;exact ⟨v, v1, v2.mono hm (fun _ _ e => e)⟩
end
end Go.Abs

namespace Go.Abs
open Go
section
variable {P : Program} {T : TT} {r : Option Nat} {m : Nat} {Q : AX -> St -> Prop}
def Zyy (m : Nat) (tgt : St) : AX -> St -> Prop
 | .normal, s => GS m (fun s' => s' = tgt) s
 | _, _ => False
theorem Zch {S : Stop} (hS : S = Zo P r m) {c : Code} {s : St} (tgt : St) (h1 : S.code c (Zyy m tgt) s) (h2 : Q .normal tgt) : S.code c Q s := by
 subst hS;refine Zs3 (Z94 h1 fun x s' hx => ?_)
 cases x with
 | normal => exact Zei (show GS m _ s' from hx) fun s2 e => by rw [e]; exact h2
 | _ => exact hx.elim
end
end Go.Abs

namespace Go.Abs
open Go
section
variable {P : Program} {T : TT} {r : Option Nat} {m : Nat} {F : Fz} {μ : Mu} {w : World} {H : List Blk} {d : D} {K : D -> List Blk -> Prop}
end
end Go.Abs

namespace Go.Abs
open Go
def Zfl {α : Type} (l : List α) (j : Nat) (x : α) : List α := l.take j ++ x :: l.drop (j + 1)
theorem Zd8 {α : Type} {l : List α} {j : Nat} (x : α) (h : j <= l.length) (i : Nat) : (Zfl l j x)[i]? = if i = j then some x else l[i]? := by
 unfold Zfl;have hl : (l.take j).length = j := by simp; omega
 by_cases h1 : i < j
 ·rw [List.getElem?_append_left (by omega), List.getElem?_take, if_pos h1, if_neg (by omega)]
 ·rw [List.getElem?_append_right (by omega), hl]
  by_cases h2 : i = j
  ·subst h2; simp
  ·rw [if_neg h2];obtain ⟨n, rfl⟩ : ∃ n, i = j + 1 + n := ⟨i - j - 1, by omega⟩;rw [show j + 1 + n - j = n + 1 by omega, List.getElem?_cons_succ, List.getElem?_drop]
theorem Z11o {α : Type} (l : List α) (x : α) : Zfl l l.length x = l ++ [x] := by unfold Zfl; simp
theorem Zpt {α : Type} {l : List α} {j : Nat} (x : α) (h : j < l.length) : Zfl l j x = l.set j x := by
 refine List.ext_getElem? fun i => ?_;rw [Zd8 x (by omega), List.getElem?_set]
 by_cases e : i = j
 ·subst e; simp [h]
 ·rw [if_neg e, if_neg (fun h => e h.symm)]
abbrev Ent := Value × Option (List D)
section
variable {P : Program} {T : TT} {r : Option Nat} {m : Nat} {Q : AX -> St -> Prop} {F : Fz} {μ : Mu} {w : World} {K : St -> Prop} {s : St}
def Nm (s : St) (k : Nat) : Prop := (∃ t sz n, Z1c s.env t = some (.o k sz n)) ∨ ∃ (t kb off : Nat) (d : D) (r sz n : Nat), Z1c s.env t = some (.b kb off) /\ Z1m s.H kb = some (.box d) /\ d.cells[r]? = some (.o k sz n)
theorem Zoe {k sz n : Nat} {v : Value} (h : VR F μ (.o k sz n) v) : μ k ≠ none := by
 cases h with
 | cl _ _ hc => cases hc
 | o _ _ _ b m cap h1 h2 h3 => rw [h1]; simp
 | oNil _ _ a h1 => rw [h1]; simp
theorem Nm.ne {k : Nat} {a : Act} (h : Nm s k) (hr : RL m F μ s a w) : μ k ≠ none := by
 rcases h with ⟨t, sz, n, h1⟩ | ⟨t, kb, off, d, r, sz, n, h1, h2, h3⟩
 ·obtain ⟨v, -, hv⟩ := hr.er.env t _ h1;exact Zoe hv
 ·obtain ⟨v, -, hv⟩ := hr.er.env t _ h1
  cases hv with
  | cl _ _ hc => cases hc
  | b _ _ b m hμ =>
   obtain ⟨v, -, -, h4⟩ := hr.hr.cells (Z7c h2) hμ 0 d rfl r _ h3;exact Zoe h4
theorem Zsa (kg k k' j i f : Nat) {sz isz : Nat} {es row : List D} {d : D} {ents : List Ent} (d' : Value -> D) (hg : Z1m s.H kg = some (.ob (.gr isz ents))) (hk : Z1m s.H k = some (.elo sz es)) (hk' : Z1m s.H k' = some (.els isz row)) (hnm : Nm s k)
  (hj : j <= ents.length) (hjo : ∀ e row', ents[j]? ≠ some (e, some row')) (hr0 : 0 < row.length) (hi : es[i]? = some d) (hf : d.cells[f]? = some (.o k' isz row.length)) (hd' : ∀ x, (d' x).cells = d.cells.set f (.v x))
  (h : ∀ x : Value, x.oneCell' = true -> GS m K { s with H := ((s.H.set k' .dead).set kg (.ob (.gr isz (Zfl ents j (x, some row))))).set k (.elo sz (es.set i (d' x))) }) : GS m K s := ⟨fun F μ act w h1 => by
 have hr := h1.hr
 have bk := Z8e hk
 have bk' := Z5f hk'
 have bg : Z13 s.H kg = some (.gr isz ents) := by rw [Z1u] at hg; rw [Z19 hg]; rfl
 have lk := Z7k bk; have lk' := Z7k bk'; have lg := Z2p bg
 have ne1 : k ≠ k' := by rintro rfl; rw [hk] at hk'; cases hk'
 have ne2 : kg ≠ k := by rintro rfl; rw [Z6w bg] at bk; cases bk
 have ne3 : kg ≠ k' := by rintro rfl; rw [Z6w bg] at bk'; cases bk'
 have hfr : FrL row := hr.fr k' _ (by rw [<- Z1u]; exact hk') _ _ rfl
 obtain ⟨o1, loc, o2, o3⟩ := hr.obj kg _ bg trivial
 rcases hr.row k sz es bk (hnm.ne h1) with ⟨-, e0⟩ | ⟨b, M, c, t, e1, e2, e3, e4, e5⟩
 ·subst e0; simp at hi
 obtain ⟨z1, z2⟩ := e5 i _ hi
 obtain ⟨x, x1, x2, x3⟩ := z2 f _ hf
 obtain ⟨b0, m0, cap, q1, q2, q3, rfl⟩ : ∃ b0 m0 cap, μ k' = some (some (b0, m0)) /\ row.length <= cap /\ cap * isz <= m0 /\ x = .slice (some ⟨b0, 0, none⟩) row.length cap := by
  generalize hn : row.length = n at x3
  cases x3 with
  | cl _ _ hc => cases hc
  | o _ _ _ b0 m0 cap g1 g2 g3 => exact ⟨b0, m0, cap, g1, by omega, g3, rfl⟩
  | oNil => omega
 rcases hr.row k' isz row bk' (by rw [q1]; simp) with ⟨e0, -⟩ | ⟨b1, m1, c1, t1, f1, f2, f3, f4, f5⟩
 ·rw [q1] at e0; cases e0
 rw [q1] at f1; cases f1
 let μ' : Mu := ⟨μ.loc, fun a b => if a = kg then μ.inn kg b ∨ b = b0 else μ.inn a b⟩
 let H' : List Blk := ((s.H.set k' .dead).set kg (.ob (.gr isz (Zfl ents j (.slice (some ⟨b0, 0, none⟩) row.length cap, some row))))).set k (.elo sz (es.set i (d' (.slice (some ⟨b0, 0, none⟩) row.length cap))))
 have hget : ∀ a, H'[a]? = if a = k then some (.elo sz (es.set i (d' (.slice (some ⟨b0, 0, none⟩) row.length cap)))) else if a = kg then some (.ob (.gr isz (Zfl ents j (.slice (some ⟨b0, 0, none⟩) row.length cap, some row)))) else if a = k' then some .dead else s.H[a]? := fun a => by
  simp only [H', List.getElem?_set, List.length_set]
  by_cases a1 : a = k
  ·subst a1; simp [lk]
  ·have a1' : ¬ k = a := fun e => a1 e.symm
   by_cases a2 : a = kg
   ·subst a2; simp [a1, a1', lg]
   ·have a2' : ¬ kg = a := fun e => a2 e.symm
    by_cases a3 : a = k'
    ·subst a3; simp [a1, a1', a2, a2', lk']
    ·have a3' : ¬ k' = a := fun e => a3 e.symm
     simp only [if_neg a1, if_neg a1', if_neg a2, if_neg a2', if_neg a3, if_neg a3']
 have gk := hget k; rw [if_pos rfl] at gk
 have gg := hget kg; rw [if_neg ne2, if_pos rfl] at gg
 have gd := hget k'; rw [if_neg (Ne.symm ne1), if_neg (Ne.symm ne3), if_pos rfl] at gd
 have hlv : Z20 H' k' = false := by rw [Z6x gd]; rfl
 have hown : ∀ a, μ.inn kg a -> a ≠ b0 := fun a ha e => by
  subst e
  exact ne3 (hr.inj kg k' a (Z2j bg) (Z15 bk') (.inr ha) (.inl ⟨_, q1⟩))
 have eC : ∀ a, ¬ (a = k ∨ a = kg ∨ a = k') -> a ≠ k /\ a ≠ kg /\ a ≠ k' := fun a h => ⟨fun e => h (.inl e), fun e => h (.inr (.inl e)), fun e => h (.inr (.inr e))⟩
 have upm : ∀ a y, μ a = some y -> μ' a = some y := fun _ _ e => e
 have r : HR F μ' H' w /\ Post F μ s.H w F μ' H' w /\ ∀ j y, μ j = some y -> μ' j = some y := by
  refine Z5e (μ' := μ') (w' := w) (H' := H') (fun a => a = k ∨ a = kg ∨ a = k') hr (by simp [H']) (fun a ha => by
   obtain ⟨n1, n2, n3⟩ := eC a ha
   rw [hget, if_neg n1, if_neg n2, if_neg n3]) (fun _ _ => rfl) (fun a b ha => by
   obtain ⟨-, n2, -⟩ := eC a ha
   show (if a = kg then _ else _) ↔ _
   rw [if_neg n2]) (fun _ _ _ e => e) (Nat.le_refl _) rfl rfl rfl (fun _ _ _ => rfl) (fun a b ha hl hft => ?_) (fun a a' b ha ha' hl hl' h4 h5 => ?_) (fun a ha hle => ?_) (fun _ a sz1 es1 ha hb1 hne => ?_) (fun a y ha hb1 b => ?_) (fun hmono a y ha hy _ => ?_) (fun a ha he b => ?_) (fun a y ha hy => ?_)
  ·
   rcases ha with rfl | rfl | rfl
   ·refine .inl ⟨a, .inl rfl, Z15 bk, ?_⟩
    rcases hft with hm | hi
    ·exact .inl hm
    ·change (if a = kg then _ else _) at hi
     rw [if_neg (Ne.symm ne2)] at hi; exact .inr hi
   ·rcases hft with hm | hi
    ·exact .inl ⟨a, .inr (.inl rfl), Z2j bg, .inl hm⟩
    ·change (if a = a then _ else _) at hi
     rw [if_pos rfl] at hi
     rcases hi with hi | rfl
     ·exact .inl ⟨a, .inr (.inl rfl), Z2j bg, .inr hi⟩
     ·exact .inl ⟨k', .inr (.inr rfl), Z15 bk', .inl ⟨_, q1⟩⟩
   ·rw [hlv] at hl; cases hl
  ·
   have key : ∀ a b, (a = k ∨ a = kg ∨ a = k') -> Z20 H' a = true -> Z40 μ' a b -> (a = k /\ Z40 μ k b) ∨ (a = kg /\ (Z40 μ kg b ∨ b = b0)) := fun a b ha hl hft => by
    rcases ha with rfl | rfl | rfl
    ·refine .inl ⟨rfl, ?_⟩
     rcases hft with hm | hi
     ·exact .inl hm
     ·change (if a = kg then _ else _) at hi
      rw [if_neg (Ne.symm ne2)] at hi; exact .inr hi
    ·refine .inr ⟨rfl, ?_⟩
     rcases hft with hm | hi
     ·exact .inl (.inl hm)
     ·change (if a = a then _ else _) at hi
      rw [if_pos rfl] at hi
      exact hi.elim (fun h => .inl (.inr h)) .inr
    ·rw [hlv] at hl; cases hl
   rcases key a b ha hl h4 with ⟨rfl, g1⟩ | ⟨rfl, g1⟩ <;> rcases key a' b ha' hl' h5 with ⟨rfl, g2⟩ | ⟨rfl, g2⟩
   ·rfl
   ·exfalso
    rcases g2 with g2 | rfl
    ·exact ne2 (hr.inj a' a b (Z2j bg) (Z15 bk) g2 g1)
    ·exact ne1 (hr.inj a k' b (Z15 bk) (Z15 bk') g1 (.inl ⟨_, q1⟩))
   ·exfalso
    rcases g1 with g1 | rfl
    ·exact ne2 (hr.inj a a' b (Z2j bg) (Z15 bk) g1 g2)
    ·exact ne1 (hr.inj a' k' b (Z15 bk) (Z15 bk') g2 (.inl ⟨_, q1⟩))
   ·rfl
  ·simp [H'] at hle
   rcases ha with rfl | rfl | rfl <;> omega
  ·rcases ha with rfl | rfl | rfl
   ·rw [Z1s gk] at hb1
    simp only [Blk.es, Option.some.injEq, Prod.mk.injEq] at hb1
    obtain ⟨rfl, rfl⟩ := hb1
    refine .inr ⟨b, M, c, t, e1, e2, e3, by simpa using e4, fun j1 y1 hy1 => ?_⟩
    rw [List.getElem?_set] at hy1
    split at hy1
    ·rename_i e; subst e
     split at hy1
     ·cases hy1
      refine ⟨by rw [hd']; simpa using z1, fun r1 d1 hd1 => ?_⟩
      rw [hd', List.getElem?_set] at hd1
      split at hd1
      ·rename_i e; subst e
       split at hd1
       ·cases hd1; exact ⟨_, x1, x2, .cl _ _ (.v _ x2)⟩
       ·cases hd1
      ·obtain ⟨v, v1, v2, v3⟩ := z2 r1 d1 hd1
       exact ⟨v, v1, v2, v3.mono (fun _ _ _ e => e) upm⟩
     ·cases hy1
    ·obtain ⟨y2, y3⟩ := e5 j1 y1 hy1
     exact ⟨y2, fun r1 d1 hd1 => let ⟨v, v1, v2, v3⟩ := y3 r1 d1 hd1; ⟨v, v1, v2, v3.mono (fun _ _ _ e => e) upm⟩⟩
   ·rw [Z1s gg] at hb1; cases hb1
   ·rw [Z1s gd] at hb1; cases hb1
  ·rcases ha with rfl | rfl | rfl
   ·show ¬ (if a = kg then _ else _)
    rw [if_neg (Ne.symm ne2)]; exact hr.plain a _ bk b
   ·rw [Z1s gg] at hb1; cases hb1
   ·rw [Z1s gd] at hb1; cases hb1
  ·rcases ha with rfl | rfl | rfl
   ·rw [Z19 gk] at hy; cases hy
   ·rw [Z19 gg] at hy; cases hy
    refine ⟨o1, fun n => if n = j then b0 else loc n, fun n e row1 he => ?_, fun n n' e e' row1 row2 he he' hh => ?_⟩
    ·rw [Zd8 _ hj] at he
     split at he
     ·rename_i en
      cases he
      refine ⟨c1, t1, cap, by simp only [if_pos en], q2, by rw [f3]; exact q3, by simp only [if_pos en]; exact f2, f5.mono (fun _ _ _ e => e) upm, hfr, ?_⟩
      show (if a = a then _ else _)
      rw [if_pos rfl]; exact .inr (by simp only [if_pos en])
     ·rename_i en
      obtain ⟨c2, t2, cap2, g1, g2, g3, g4, g5, g6, g7⟩ := o2 n e row1 he
      refine ⟨c2, t2, cap2, by simp only [if_neg en]; exact g1, g2, g3, by simp only [if_neg en]; exact g4, g5.mono (fun _ _ _ e => e) upm, g6, ?_⟩
      show (if a = a then _ else _)
      rw [if_pos rfl]; simp only [if_neg en]; exact .inl g7
    ·rw [Zd8 _ hj] at he he'
     by_cases n1 : n = j <;> by_cases n2 : n' = j
     ·omega
     ·exfalso
      rw [if_neg n2] at he'
      simp only [if_pos n1, if_neg n2] at hh
      obtain ⟨_, _, _, _, _, _, _, _, _, g7⟩ := o2 n' _ _ he'
      exact hown _ g7 hh.symm
     ·exfalso
      rw [if_neg n1] at he
      simp only [if_neg n1, if_pos n2] at hh
      obtain ⟨_, _, _, _, _, _, _, _, _, g7⟩ := o2 n _ _ he
      exact hown _ g7 hh
     ·rw [if_neg n1] at he; rw [if_neg n2] at he'
      simp only [if_neg n1, if_neg n2] at hh
      exact o3 n n' _ _ _ _ he he' hh
   ·rw [Z19 gd] at hy; cases hy
  ·rcases ha with rfl | rfl | rfl
   ·exact absurd (show μ a = none from he) (hnm.ne h1)
   ·change μ a = none at he; rw [o1] at he; cases he
   ·change μ a = none at he; rw [q1] at he; cases he
  ·rcases ha with rfl | rfl | rfl
   ·rw [gk] at hy; cases hy; exact fun _ _ e => by cases e
   ·rw [gg] at hy; cases hy; exact fun _ _ e => by cases e
   ·rw [gd] at hy; cases hy; exact fun _ _ e => by cases e
 obtain ⟨r1, r2, r3⟩ := r
 have hob : ∀ a, Z13 s.H a = some .mk -> Z13 H' a = some .mk /\ ∀ b, μ.inn a b -> μ'.inn a b := fun a ha => by
  have n1 : a ≠ k := by rintro rfl; rw [Z6w ha] at bk; cases bk
  have n2 : a ≠ kg := by rintro rfl; rw [ha] at bg; cases bg
  have n3 : a ≠ k' := by rintro rfl; rw [Z6w ha] at bk'; cases bk'
  refine ⟨?_, fun b hb => ?_⟩
  ·unfold Z13 at ha ⊢; rw [hget, if_neg n1, if_neg n2, if_neg n3]; exact ha
  ·show (if a = kg then _ else _)
   rw [if_neg n2]; exact hb
 have rl : RL m F μ' { s with H := H' } act w := ⟨r1, ⟨fun t d ht => let ⟨v, v1, v2⟩ := h1.er.env t d ht; ⟨v, v1, v2.mono (fun _ _ _ e => e) r3⟩, h1.er.nt, h1.er.dfs.mono (fun _ _ _ e => e) r3 (fun a ha => hob a ha)⟩, by simpa [H'] using h1.len⟩
 obtain ⟨F2, μ2, s2, k1, k2, k3, k4, k5⟩ := (h _ x2).out F μ' act w rl
 exact ⟨F2, μ2, s2, r2.trans k1, Kp.trans (H := s.H) (H' := H') (μ := μ) (μ' := μ') ⟨fun _ _ => rfl, fun a _ ha => hob a ha⟩ k2, k3, fun d v hd hv => k4 d v hd (hv.mono (fun _ _ _ e => e) r3), k5⟩⟩
end
end Go.Abs

namespace Go.Abs
open Go
section
variable {P : Program} {T : TT} {r : Option Nat} {m : Nat} {Q : AX -> St -> Prop} {F : Fz} {μ : Mu} {w : World} {K : St -> Prop} {s : St}
theorem Zpu (kg k j i f : Nat) {sz isz : Nat} {es row : List D} {d : D} {x : Value} {ents : List Ent} (d' : D) (hg : Z1m s.H kg = some (.ob (.gr isz ents))) (hk : Z1m s.H k = some (.elo sz es)) (hj : ents[j]? = some (x, some row))
  (hi : es[i]? = some d) (hf : d.cells[f]? = some (.v x)) (hd' : d'.cells = d.cells.set f (.o s.H.length isz row.length))
  (h : GS m K { s with H := ((s.H.set kg (.ob (.gr isz (ents.set j (x, none))))).set k (.elo sz (es.set i d'))) ++ [.els isz row] }) : GS m K s := ⟨fun F μ act w h1 => by
 have hr := h1.hr
 have bk := Z8e hk
 have bg : Z13 s.H kg = some (.gr isz ents) := by rw [Z1u] at hg; rw [Z19 hg]; rfl
 have lk := Z7k bk; have lg := Z2p bg
 have ne2 : kg ≠ k := by rintro rfl; rw [Z6w bg] at bk; cases bk
 obtain ⟨o1, loc, o2, o3⟩ := hr.obj kg _ bg trivial
 obtain ⟨c0, t0, cap, p1, p2, p3, p4, p5, p6, p7⟩ := o2 j x row hj
 obtain ⟨L, hL⟩ : ∃ L, L = s.H.length := ⟨_, rfl⟩
 have nk : k ≠ L := by omega
 have ng : kg ≠ L := by omega
 have hLn : μ L = none := hr.dom _ (by omega)
 let μ' : Mu := ⟨fun a => if a = L then some (some (loc j, c0.size)) else μ a, fun a b => if a = kg then μ.inn kg b /\ b ≠ loc j else μ.inn a b⟩
 have m1 : ∀ a, a ≠ L -> μ' a = μ a := fun a ha => by show (if a = L then _ else _) = _; rw [if_neg ha]
 have m2 : μ' L = some (some (loc j, c0.size)) := by show (if L = L then _ else _) = _; rw [if_pos rfl]
 have m3 : ∀ a b, a ≠ kg -> (μ'.inn a b ↔ μ.inn a b) := fun a b ha => by show (if a = kg then _ else _) ↔ _; rw [if_neg ha]
 have m4 : ∀ b, μ'.inn kg b ↔ (μ.inn kg b /\ b ≠ loc j) := fun b => by show (if kg = kg then _ else _) ↔ _; rw [if_pos rfl]
 obtain ⟨H', hH'⟩ : ∃ H' : List Blk, H' = ((s.H.set kg (.ob (.gr isz (ents.set j (x, none))))).set k (.elo sz (es.set i d'))) ++ [.els isz row] := ⟨_, rfl⟩
 have hlen : H'.length = L + 1 := by rw [hH', hL]; simp
 have hget : ∀ a, H'[a]? = if a = k then some (.elo sz (es.set i d')) else if a = kg then some (.ob (.gr isz (ents.set j (x, none)))) else if a = L then some (.els isz row) else s.H[a]? := fun a => by
  rw [hH']
  by_cases hlt : a < s.H.length
  ·rw [List.getElem?_append_left (by simpa using hlt)]
   simp only [List.getElem?_set, List.length_set]
   by_cases a1 : a = k
   ·subst a1; simp [lk]
   ·have a1' : ¬ k = a := fun e => a1 e.symm
    by_cases a2 : a = kg
    ·subst a2; simp [a1, a1', lg]
    ·have a2' : ¬ kg = a := fun e => a2 e.symm
     have a3 : a ≠ L := by omega
     simp only [if_neg a1, if_neg a1', if_neg a2, if_neg a2', if_neg a3]
  ·have a1 : a ≠ k := by omega
   have a2 : a ≠ kg := by omega
   rw [if_neg a1, if_neg a2, List.getElem?_append_right (by simp; omega)]
   by_cases a3 : a = L
   ·subst a3; rw [if_pos rfl, hL]; simp
   ·rw [if_neg a3, List.getElem?_eq_none (by simp; omega), List.getElem?_eq_none (by omega)]
 have gk := hget k; rw [if_pos rfl] at gk
 have gg := hget kg; rw [if_neg ne2, if_pos rfl] at gg
 have gd := hget L; rw [if_neg (Ne.symm nk), if_neg (Ne.symm ng), if_pos rfl] at gd
 have eC : ∀ a, ¬ (a = k ∨ a = kg ∨ a = L) -> a ≠ k /\ a ≠ kg /\ a ≠ L := fun a h => ⟨fun e => h (.inl e), fun e => h (.inr (.inl e)), fun e => h (.inr (.inr e))⟩
 have upm : ∀ a y, μ a = some y -> μ' a = some y := fun a y e => by
  by_cases ha : a = L
  ·subst ha; rw [hLn] at e; cases e
  ·rw [m1 a ha]; exact e
 have fk : ∀ b, Z40 μ' k b -> Z40 μ k b := fun b hb => by
  rcases hb with ⟨M, hM⟩ | hb
  ·rw [m1 k nk] at hM; exact .inl ⟨M, hM⟩
  ·exact .inr ((m3 k b (Ne.symm ne2)).1 hb)
 have fg : ∀ b, Z40 μ' kg b -> μ.inn kg b /\ b ≠ loc j := fun b hb => by
  rcases hb with ⟨M, hM⟩ | hb
  ·rw [m1 kg ng, o1] at hM; cases hM
  ·exact (m4 b).1 hb
 have fL : ∀ b, Z40 μ' L b -> b = loc j := fun b hb => by
  rcases hb with ⟨M, hM⟩ | hb
  ·rw [m2] at hM; cases hM; rfl
  ·exact absurd ((m3 L b (Ne.symm ng)).1 hb) (hr.non _ hLn b)
 have r : HR F μ' H' w /\ Post F μ s.H w F μ' H' w /\ ∀ j y, μ j = some y -> μ' j = some y := by
  refine Z5e (μ' := μ') (w' := w) (H' := H') (fun a => a = k ∨ a = kg ∨ a = L) hr (by omega) (fun a ha => by
   obtain ⟨n1, n2, n3⟩ := eC a ha
   rw [hget, if_neg n1, if_neg n2, if_neg n3]) (fun a ha => m1 a (eC a ha).2.2) (fun a b ha => m3 a b (eC a ha).2.1) (fun a _ y e => upm a y e) (Nat.le_refl _) rfl rfl rfl (fun _ _ _ => rfl) (fun a b ha hl hft => ?_) (fun a a' b ha ha' hl hl' h4 h5 => ?_) (fun a ha hle => ?_) (fun _ a sz1 es1 ha hb1 hne => ?_) (fun a y ha hb1 b => ?_) (fun hmono a y ha hy _ => ?_) (fun a ha he b => ?_) (fun a y ha hy => ?_)
  ·rcases ha with rfl | rfl | rfl
   ·exact .inl ⟨a, .inl rfl, Z15 bk, fk b hft⟩
   ·exact .inl ⟨a, .inr (.inl rfl), Z2j bg, .inr (fg b hft).1⟩
   ·exact .inl ⟨kg, .inr (.inl rfl), Z2j bg, .inr (by rw [fL b hft]; exact p7)⟩
  ·rcases ha with rfl | rfl | rfl <;> rcases ha' with rfl | rfl | rfl
   ·rfl
   ·exact (ne2 (hr.inj a' a b (Z2j bg) (Z15 bk) (.inr (fg b h5).1) (fk b h4))).elim
   ·exfalso
    have e := fL b h5; subst e
    exact ne2 (hr.inj kg a _ (Z2j bg) (Z15 bk) (.inr p7) (fk _ h4))
   ·exact (ne2 (hr.inj a a' b (Z2j bg) (Z15 bk) (.inr (fg b h4).1) (fk b h5))).elim
   ·rfl
   ·exact ((fg b h4).2 (fL b h5)).elim
   ·exfalso
    have e := fL b h4; subst e
    exact ne2 (hr.inj kg a' _ (Z2j bg) (Z15 bk) (.inr p7) (fk _ h5))
   ·exact ((fg b h5).2 (fL b h4)).elim
   ·rfl
  ·rcases ha with rfl | rfl | rfl <;> omega
  ·rcases ha with rfl | rfl | rfl
   ·rw [Z1s gk] at hb1
    simp only [Blk.es, Option.some.injEq, Prod.mk.injEq] at hb1
    obtain ⟨rfl, rfl⟩ := hb1
    rw [m1 a nk] at hne ⊢
    rcases hr.row a sz es bk hne with ⟨-, e0⟩ | ⟨b, M, c, t, e1, e2, e3, e4, e5⟩
    ·subst e0; simp at hi
    refine .inr ⟨b, M, c, t, e1, e2, e3, by simpa using e4, fun j1 y1 hy1 => ?_⟩
    rw [List.getElem?_set] at hy1
    split at hy1
    ·rename_i e; subst e
     split at hy1
     ·cases hy1
      obtain ⟨z1, z2⟩ := e5 i _ hi
      refine ⟨by rw [hd']; simpa using z1, fun r1 d1 hd1 => ?_⟩
      rw [hd', List.getElem?_set] at hd1
      split at hd1
      ·rename_i e; subst e
       split at hd1
       ·cases hd1
        obtain ⟨v, v1, v2, v3⟩ := z2 f _ hf
        refine ⟨v, v1, v2, ?_⟩
        rw [v3.v_inv, p1, <- hL]
        exact .o _ _ _ _ _ _ m2 p2 p3
       ·cases hd1
      ·obtain ⟨v, v1, v2, v3⟩ := z2 r1 d1 hd1
       exact ⟨v, v1, v2, v3.mono (fun _ _ _ e => e) upm⟩
     ·cases hy1
    ·obtain ⟨y2, y3⟩ := e5 j1 y1 hy1
     exact ⟨y2, fun r1 d1 hd1 => let ⟨v, v1, v2, v3⟩ := y3 r1 d1 hd1; ⟨v, v1, v2, v3.mono (fun _ _ _ e => e) upm⟩⟩
   ·rw [Z1s gg] at hb1; cases hb1
   ·rw [Z1s gd] at hb1; cases hb1
    exact .inr ⟨_, _, c0, t0, m2, p4, rfl, Nat.le_trans (Nat.mul_le_mul_right _ p2) p3, p5.mono (fun _ _ _ e => e) upm⟩
  ·rcases ha with rfl | rfl | rfl
   ·rw [m3 a b (Ne.symm ne2)]; exact hr.plain a _ bk b
   ·rw [Z1s gg] at hb1; cases hb1
   ·rw [m3 a b (Ne.symm ng)]; exact hr.non _ hLn b
  ·rcases ha with rfl | rfl | rfl
   ·rw [Z19 gk] at hy; cases hy
   ·rw [Z19 gg] at hy; cases hy
    have hent : ∀ (n : Nat) (e : Value) (row1 : List D), (ents.set j (x, none))[n]? = some (e, some row1) -> n ≠ j /\ ents[n]? = some (e, some row1) := fun n e row1 he => by
     rw [List.getElem?_set] at he
     split at he
     ·split at he <;> cases he
     ·rename_i hne; exact ⟨fun e => hne e.symm, he⟩
    refine ⟨by rw [m1 a ng]; exact o1, loc, fun n e row1 he => ?_, fun n n' e e' row1 row2 he he' hh => o3 n n' _ _ _ _ (hent _ _ _ he).2 (hent _ _ _ he').2 hh⟩
    obtain ⟨hn, he⟩ := hent n e row1 he
    obtain ⟨c2, t2, cap2, g1, g2, g3, g4, g5, g6, g7⟩ := o2 n e row1 he
    exact ⟨c2, t2, cap2, g1, g2, g3, g4, g5.mono (fun _ _ _ e => e) upm, g6, (m4 _).2 ⟨g7, fun e0 => hn (o3 n j _ _ _ _ he hj e0)⟩⟩
   ·rw [Z19 gd] at hy; cases hy
  ·rcases ha with rfl | rfl | rfl
   ·rw [m1 a nk] at he
    rw [m3 a b (Ne.symm ne2)]; exact hr.non _ he b
   ·rw [m1 a ng, o1] at he; cases he
   ·rw [m2] at he; cases he
  ·rcases ha with rfl | rfl | rfl
   ·rw [gk] at hy; cases hy; exact fun _ _ e => by cases e
   ·rw [gg] at hy; cases hy; exact fun _ _ e => by cases e
   ·rw [gd] at hy; cases hy; exact fun _ _ e => by cases e; exact p6
 obtain ⟨r1, r2, r3⟩ := r
 have hob : ∀ a, Z13 s.H a = some .mk -> Z13 H' a = some .mk /\ ∀ b, μ.inn a b -> μ'.inn a b := fun a ha => by
  have n1 : a ≠ k := by rintro rfl; rw [Z6w ha] at bk; cases bk
  have n2 : a ≠ kg := by rintro rfl; rw [ha] at bg; cases bg
  have n3 : a ≠ L := by have := Z2p ha; omega
  refine ⟨?_, fun b hb => (m3 a b n2).2 hb⟩
  unfold Z13 at ha ⊢; rw [hget, if_neg n1, if_neg n2, if_neg n3]; exact ha
 have rl : RL m F μ' { s with H := H' } act w := ⟨r1, ⟨fun t d ht => let ⟨v, v1, v2⟩ := h1.er.env t d ht; ⟨v, v1, v2.mono (fun _ _ _ e => e) r3⟩, h1.er.nt, h1.er.dfs.mono (fun _ _ _ e => e) r3 (fun a ha => hob a ha)⟩, by have := h1.len; show m <= H'.length; omega⟩
 subst hH'
 obtain ⟨F2, μ2, s2, k1, k2, k3, k4, k5⟩ := h.out F μ' act w rl
 exact ⟨F2, μ2, s2, r2.trans k1, Kp.trans (H := s.H) (μ := μ) (μ' := μ') ⟨fun a ha => m1 a (by have := h1.len; omega), fun a _ ha => hob a ha⟩ k2, k3, fun d v hd hv => k4 d v hd (hv.mono (fun _ _ _ e => e) r3), k5⟩⟩
theorem Zsb {a : Act} {k i f sz isz : Nat} {es : List D} {d d' : D} (hk : Z1m s.H k = some (.elo sz es)) (hi : es[i]? = some d) (hf : d.cells[f]? = some (.v (.slice none 0 0))) (hd : d'.cells = d.cells.set f (.o s.H.length isz 0)) (h : RL m F μ s a w) :
  ∃ μ', RL m F μ' { s with H := s.H.set k (.elo sz (es.set i d')) ++ [.els isz []] } a w /\ Post F μ s.H w F μ' (s.H.set k (.elo sz (es.set i d')) ++ [.els isz []]) w /\ Kp m μ s.H μ' (s.H.set k (.elo sz (es.set i d')) ++ [.els isz []]) := by
 obtain ⟨q1, q2, q3⟩ := Zc5 h.hr (sz := isz) (h.hr.dom _ (Nat.le_refl _)) (Nat.le_refl _);rw [Z6y] at q1 q2;have hkl : k < s.H.length := by rw [Z1u] at hk; exact (List.getElem?_eq_some_iff.1 hk).1
 have hk' : Z1m (s.H ++ [Blk.els isz []]) k = some (.elo sz es) := Z5i hk;have hb := Z8e hk';obtain ⟨X, hX⟩ : ∃ X, X = Blk.elo sz (es.set i d') := ⟨_, rfl⟩;have hset : ∀ j, ((s.H ++ [Blk.els isz []]).set k X)[j]? = if j = k then some X else (s.H ++ [Blk.els isz []])[j]? := fun j => by
  have := Z2m (H := s.H ++ [Blk.els isz []]) X (k := k) (by simp; omega) j
  rwa [setB, if_pos (by simp; omega)] at this
 have hlen : d'.cells.length = d.cells.length := by rw [hd]; simp
 obtain ⟨r1, r2, -⟩ := Z5e (μ' := Z4v μ s.H.length none) (w' := w) (H' := (s.H ++ [Blk.els isz []]).set k X) (fun j => j = k) q1 (by simp) (fun j hj => by rw [hset, if_neg hj]) (fun j _ => rfl) (fun j b _ => Iff.rfl) (fun _ _ _ h => h) (Nat.le_refl _) rfl rfl rfl
  (fun b' hb' hn => rfl) (fun k' b' hk' _ hf => .inl ⟨k, rfl, Z15 hb, by subst hk'; exact hf⟩) (fun k1 k2 b h1 h2 _ _ _ _ => h1.trans h2.symm)
  (fun k' hk' hle' => by subst hk'; simp at hle'; omega) (fun _ k' sz1 es1 hk' hb1 hne => by
   subst hk'
   rw [Z1s (x := X) (by rw [hset, if_pos rfl]), hX] at hb1
   simp only [Blk.es, Option.some.injEq, Prod.mk.injEq] at hb1
   obtain ⟨rfl, rfl⟩ := hb1
   rcases q1.row k' _ _ hb hne with ⟨e1, e2⟩ | ⟨b, m, c, t, e1, e2, e3, e4, e5⟩
   ·subst e2; simp at hi
   ·refine .inr ⟨b, m, c, t, e1, e2, e3, by simpa using e4, fun j e he => ?_⟩
    rw [List.getElem?_set] at he
    split at he
    ·rename_i e0; subst e0
     split at he
     ·cases he
      obtain ⟨z1, z2⟩ := e5 i _ hi
      refine ⟨by rw [hlen]; exact z1, fun r x hx => ?_⟩
      rw [hd, List.getElem?_set] at hx
      split at hx
      ·rename_i e0; subst e0
       split at hx
       ·cases hx
        obtain ⟨v, v1, v2, v3⟩ := z2 f _ hf
        refine ⟨v, v1, v2, ?_⟩
        rw [v3.v_inv]; exact .oNil _ _ none (Z6h _ _ _)
       ·cases hx
      ·exact z2 r _ hx
     ·cases he
    ·exact e5 j e he) (fun k' y hk' _ b => by subst hk'; exact q1.plain k' _ hb b) (fun _ k' y hk' hy _ => by subst hk'; rw [Z19 (x := X) (by rw [hset, if_pos rfl]), hX] at hy; cases hy) (fun k' hk' he => by subst hk'; exact q1.non _ he) (fun k' y hk' hy => by
   subst hk'; rw [hset, if_pos rfl, hX] at hy; cases hy; exact fun _ _ e => by cases e)
 have hs : (s.H ++ [Blk.els isz []]).set k X = s.H.set k X ++ [.els isz []] := by rw [List.set_append_left _ _ hkl]
 have hob : ∀ j y, Z13 s.H j = some y -> Z13 ((s.H ++ [Blk.els isz []]).set k X) j = some y := fun j y hj => Z95 _ hb (Z41 _ hj);rw [hs] at r1 r2 hob;subst hX;refine ⟨_, ⟨r1, ⟨fun n x hn => ?_, h.er.nt, h.er.dfs.mono (fun _ _ _ e => e) q3 (fun j hj => ⟨hob j _ hj, fun _ e => e⟩)⟩, by have := h.len; simp; omega⟩, q2.trans r2, ⟨fun i hi => by rw [Z2k _ (by have := h.len; omega)], fun i _ hk => ⟨hob i _ hk, fun _ e => e⟩⟩⟩;obtain ⟨v, h1, h2⟩ := h.er.env n x hn;exact ⟨v, h1, h2.mono (fun _ _ _ e => e) q3⟩
theorem Zkf (k i f : Nat) {sz : Nat} (isz : Nat) {es : List D} {d : D} (d' : D) (hk : Z1m s.H k = some (.elo sz es)) (hi : es[i]? = some d) (hf : d.cells[f]? = some (.v (.slice none 0 0))) (hd : d'.cells = d.cells.set f (.o s.H.length isz 0))
  (h : GS m K { s with H := s.H.set k (.elo sz (es.set i d')) ++ [.els isz []] }) : GS m K s :=
 Z4i (fun F μ act w h1 => let ⟨μ', g1, g2, g3⟩ := Zsb hk hi hf hd h1; ⟨F, μ', g2, g3, g1⟩) h
theorem Zuv (mk : Nat -> St) (n : Nat) (step : ∀ i, i < n -> ∀ K, GS m K (mk (i + 1)) -> GS m K (mk i)) (h : GS m K (mk n)) : GS m K (mk 0) := by
 induction n generalizing K with
 | zero => exact h
 | succ n ih => exact ih (fun i hi => step i (by omega)) (step n (by omega) K h)
end
end Go.Abs

namespace Go.Abs
open Go
section
variable {P : Program} {T : TT} {r : Option Nat} {m : Nat}
theorem bm2 {S : Stop} {α : Type} {b : Bool} {X Y : Prop} {c : Code} {Q : AX -> St -> Prop} (mk : α -> St) (Pr : α -> Prop) (h1 : (∀ x, Pr x -> S.code c Q (mk x)) -> b = true -> X) (h2 : (∀ x, Pr x -> S.code c Q (mk x)) -> b = false -> Y) (rest : ∀ x, Pr x -> S.code c Q (mk x)) :
  (match (generalizing := false) b with | true => X | false => Y) := by
 cases b
 ·exact h2 rest rfl
 ·exact h1 rest rfl
theorem Zof {S : Stop} (hS : S = Zo P r m) {α : Type} {Pr : α -> Prop} {mk : α -> St} {c : Code} {Q : AX -> St -> Prop} {s : St} (rest : ∀ x, Pr x -> S.code c Q (mk x)) (x : α) (hx : Pr x) (h : GS m (fun s' => s' = mk x) s) : S.code c Q s :=
 Z3h hS (Zei h fun s' e => by rw [e]; exact rest x hx)
theorem Z39 {K : St -> Prop} {s : St} (k : Nat) {sz : Nat} {es es' : List D} (hk : Z1m s.H k = some (.els sz es)) (e : es = es') (h : GS m K { s with H := s.H.set k (.els sz es') }) : GS m K s := by
 subst e;have e1 : s.H.set k (.els sz es) = s.H := List.ext_getElem? fun i => by
  rw [List.getElem?_set]
  split
  ·rename_i e; subst e
   split
   ·exact (((Z1u s.H k).symm.trans hk)).symm
   ·rw [List.getElem?_eq_none (by omega)]
  ·rfl
 rw [e1] at h;exact h
end
end Go.Abs

namespace Go.Abs
open Go
def Z5t : Value := .slice none 0 0
structure GridOk (xs : List Value) (rows : List (List D)) : Prop where
 nil : ∀ j, j < xs.length -> rows.getD j [] = [] -> xs.getD j Z5t = Z5t
 fr : ∀ j, FrL (rows.getD j [])
section
variable {m : Nat} {K : St -> Prop} {E : List (Nat × D)} {b0 b3 b4 : Blk} {nt : Nat}
theorem Zpw {s : St} (sz : Nat) (ents : List Ent) (hn0 : ∀ (j : Nat) (e : Value) (row : List D), ents[j]? ≠ some (e, some row)) (h : GS m K { s with H := s.H ++ [.ob (.gr sz ents)] }) : GS m K s := by
 refine Z4i (s' := { s with H := s.H ++ [.ob (.gr sz ents)] }) (fun F μ act w h1 => ?_) h;have hn : μ s.H.length = none := h1.hr.dom _ (Nat.le_refl _);have hat := Z6h μ s.H.length none;have hget : (s.H ++ [Blk.ob (.gr sz ents)])[s.H.length]? = some (.ob (.gr sz ents)) := by simp
 have nf : ∀ b, ¬ Z40 (Z4v μ s.H.length none) s.H.length b := fun b hf => by
  rcases hf with ⟨m, hm⟩ | hf
  ·rw [hat] at hm; cases hm
  ·exact absurd hf (h1.hr.non _ hn b)
 obtain ⟨r1, r2, r3⟩ := Z5e (μ' := Z4v μ s.H.length none) (w' := w) (H' := s.H ++ [.ob (.gr sz ents)]) (fun j => j = s.H.length) h1.hr (by simp) (fun k hk => by
   by_cases hlt : k < s.H.length
   ·rw [List.getElem?_append_left hlt]
   ·rw [List.getElem?_eq_none (by simp; omega), List.getElem?_eq_none (by omega)]) (fun j hj => Z2k _ hj) (fun j b _ => Iff.rfl) (fun j hj y hy => by subst hj; rw [hn] at hy; cases hy) (Nat.le_refl _) rfl rfl rfl
  (fun _ _ _ => rfl) (fun k' b hk' _ hf => by subst hk'; exact absurd hf (nf b)) (fun k1 k2 b h1 h2 _ _ _ _ => h1.trans h2.symm) (fun k' hk' hle => by subst hk'; simp at hle; omega) (fun _ k' sz es hk' hb _ => by subst hk'; rw [Z1s hget] at hb; cases hb)
  (fun k' y hk' hb b => by subst hk'; rw [Z1s hget] at hb; cases hb) (fun hmono k' y hk' hyy _ => by
   subst hk'
   rw [Z19 hget] at hyy; cases hyy
   exact ⟨hat, fun _ => 0, fun j e row he => absurd he (hn0 j e row), fun i j e e' row row' he => absurd he (hn0 i e row)⟩) (fun k' hk' he => by subst hk'; rw [hat] at he; cases he) (fun k' y hk' hyy => by
   subst hk'; rw [hget] at hyy; cases hyy; exact fun _ _ e => by cases e)
 refine ⟨_, _, r2, ⟨fun i hi => Z2k _ (by have := h1.len; omega), fun i _ hk => ⟨Z41 _ hk, fun _ e => e⟩⟩, r1, ⟨fun t d ht => ?_, h1.er.nt, h1.er.dfs.mono (fun _ _ _ e => e) r3 (fun j hj => ⟨Z41 _ hj, fun _ e => e⟩)⟩, by have := h1.len; simp; omega⟩;obtain ⟨v, v1, v2⟩ := h1.er.env t d ht;exact ⟨v, v1, v2.mono (fun _ _ _ e => e) r3⟩
end
end Go.Abs

namespace Go.Abs
open Go
section
variable {P : Program} {T : TT} {r : Option Nat} {m : Nat} {Q : AX -> St -> Prop} {F : Fz} {μ : Mu} {w : World} {K : St -> Prop} {s : St}
theorem Zog (k : Nat) {x y : Blk} (hk : Z1m s.H k = some x) (e : x = y) (h : GS m K { s with H := s.H.set k y }) : GS m K s := by
 subst e;have e1 : s.H.set k x = s.H := List.ext_getElem? fun i => by
  rw [List.getElem?_set]
  split
  ·rename_i e; subst e
   split
   ·exact (((Z1u s.H k).symm.trans hk)).symm
   ·rw [List.getElem?_eq_none (by omega)]
  ·rfl
 rw [e1] at h;exact h
end
theorem Z11z {α : Type} {l : List α} {k : Nat} (h : k = l.length) {x : α} : Zfl l k x = l ++ [x] := by subst h; exact Z11o _ _
end Go.Abs

namespace Go.Abs
open Go
section
variable {P : Program} {T : TT} {r : Option Nat} {m : Nat} {ops : Array Oper} {Q : AX -> St -> Prop} {s : St}
end
end Go.Abs
