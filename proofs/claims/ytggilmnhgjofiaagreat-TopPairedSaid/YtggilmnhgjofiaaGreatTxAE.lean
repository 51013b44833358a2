/- Part TxAE of the proofs about the benches of the accordion maker: see the last text of the claim for what is proved. -/
import Derived.RangeFuncRecord
import Derived.Orders
import Derived.Test.YtggilmnhgjofiaaGreatTxAD
import Derived.Test.YtggilmnhgjofiaaGreatTxAC
import Derived.Test.YtggilmnhgjofiaaGreatTxAA
set_option linter.unusedVariables false
set_option linter.unusedSimpArgs false
set_option linter.unnecessarySimpa false
set_option linter.constructorNameAsVariable false

set_option linter.unusedSimpArgs false
namespace Go.Abs
open Go Go.Conc
def opsZ (r : Option Nat) (P : Program) (ops : Array Oper) (Q : Exit -> Act -> World -> Prop) : List Nat -> Act -> World -> Prop
 | [], a, w => Q .normal a w
 | i :: rest, a, w =>
  match ops[i]? with
  | none => opsZ r P ops Q rest a w
  | some o => if Region.wanted o (yielded ops a.tmps) then ∀ d, opZ P r o a (opsZ r P ops Q rest) Q (w.at d) else opsZ r P ops Q rest (a.put o.dst undef) w
section
variable {P : Program} {r : Option Nat} {ops : Array Oper} {Q : Exit -> Act -> World -> Prop}
theorem Z1wj : ∀ (l : List Nat) (a : Act) (w : World), opsZ r P ops Q l a w -> ∀ (b : Frame) (k : List Item) (cs : List Frame), b.roundOf = r -> ∀ d, Runs P (Arr b k cs Q) (b.atR a (.inRegion ops l :: k)) cs (w.at d)
 | [], _, w, h, _, _, _, _, _ => .calm (fun _ => Z1vj) fun d' => Z1tw (e := .normal) (w₀ := w) h rfl
 | i :: rest, a, w, h, b, k, cs, hb, d => by
  simp only [opsZ] at h
  cases ho : ops[i]? with
  | none =>
   simp only [ho] at h;refine .calm (fun _ => Z1ws (by simp [ho])) fun d' => ?_;simp only [ho, Option.bind_none, Act.put];exact Z1wj rest a w h b k cs hb d'
  | some o =>
   simp only [ho] at h
   by_cases hw : Region.wanted o (yielded ops a.tmps) = true
   ·simp only [hw, if_true] at h;exact Z22s ho hw hb (fun a' w₀ hn d' => Z1wj rest a' w₀ hn b k cs hb d') h d
   ·simp only [hw, if_false, Bool.false_eq_true] at h;refine .calm (fun _ => Z1ws (by simp [ho]; simpa using hw)) fun d' => ?_;simp only [ho, Option.bind_some];exact Z1wj rest _ w h b k cs hb d'
theorem Z221 {id : Nat} {a : Act} {w : World} (h : opsZ r P ops Q (List.range ops.size) a w) : wpZ r P (.region id ops false) Q a w :=
 fun d b k cs hb => .calm (fun _ => Z1y8) fun d' => Z1wj _ a w h b k cs hb d'
theorem Z1w9 {Q' : Exit -> Act -> World -> Prop} (hq : ∀ e a w, Q e a w -> Q' e a w) : ∀ (l : List Nat) (a : Act) (w : World), opsZ r P ops Q l a w -> opsZ r P ops Q' l a w
 | [], _, _, h => hq _ _ _ h
 | i :: l, a, w, h => by
  simp only [opsZ] at h ⊢
  split
  ·rename_i ho; rw [ho] at h; exact Z1w9 hq l _ _ h
  ·rename_i o ho
   rw [ho] at h;simp only at h
   split
   ·rename_i hw; rw [if_pos hw] at h; exact fun d => Z1z0 (Z1w9 hq l) hq (h d)
   ·rename_i hw; rw [if_neg hw] at h; exact Z1w9 hq l _ _ h
end
section
variable {P : Program} {main : Bool} {fr c : Frame} {cs : List Frame} {w : World}
theorem Z244 {v : Value} {fn : Func} (hm : fr.mode = .returning) (hd : fr.defers = []) (hk : fr.kind = .normal) (hf : P.funcs[fr.fn]? = some fn) (hr : (results fn fr.tmps).run P w = .ok v w) :
  stepG P main (G fr (c :: cs)) w = .go (G (c.finish v) cs) w (seen P fr.fn ((results fn fr.tmps).events P w #[])) := by
 simp [G, stepG, unwind, doReturn, hm, hd, hk, hf, hr, GStep.after]
theorem Z25i {ch : List PanicEntry} {fn : Func} (hm : fr.mode = .panicking ch) (hd : fr.defers = []) (hf : P.funcs[fr.fn]? = some fn) :
  stepG P main (G fr (c :: cs)) w = .go (G (c.raise ch) cs) w := by
 simp [G, stepG, unwind, Frame.catches, hm, hd, hf]
theorem Z1xw {r : Nat} {d : Deferred} {ds calls : List Deferred} {w' : World} (hm : fr.mode ≠ .run) (hd : fr.defers = d :: ds) (ht : d.target = .collected r) (hk : (Instr.takeDeferred r).run P w = .ok calls w') :
  stepG P main (G fr cs) w = .go (G { fr with defers := calls ++ ds } cs) w' (seen P fr.fn ((Instr.takeDeferred r).events P w #[])) := by
 obtain ⟨t, a⟩ := d;simp only at ht;subst ht
 cases hmode : fr.mode with
 | run => exact absurd hmode hm
 | returning => simp [G, stepG, unwind, hmode, hd, hk, GStep.after]
 | panicking chain => simp [G, stepG, unwind, hmode, hd, hk, GStep.after]
def Z1vn (P : Program) (fn : Func) (tmps : Array Value) (R : Ending -> World -> Prop) : List Deferred -> FrameMode -> World -> Prop
 | [], .returning, w => ∀ d, ∃ v, (results fn tmps).run P (w.at d) = .ok v (w.at d) /\ R (.returned v) w
 | [], .panicking ch, w => R (.panicked ch) w
 | [], .run, _ => False
 | d :: ds, u, w => u ≠ .run /\ ∃ r w', d.target = .collected r /\ (∀ n, (Instr.takeDeferred r).run P (w.at n) = .ok [] (w'.at n)) /\ Z1vn P fn tmps R ds u w'
theorem Z1w6 {fn : Func} {tmps : Array Value} {R : Ending -> World -> Prop} : ∀ (ds : List Deferred) (u : FrameMode) (w : World) (fr : Frame), fr.mode = u -> fr.defers = ds -> fr.tmps = tmps -> P.funcs[fr.fn]? = some fn -> fr.kind = .normal ->
  Z1vn P fn tmps R ds u w -> ∀ d, Runs P (EndX c cs R) fr (c :: cs) (w.at d)
 | [], .returning, w, fr, hm, hd, ht, hf, hk, h, d => .stepAt fun d' => by
  obtain ⟨v, hr, hR⟩ := h d';subst ht;exact ⟨_, _, _, _, Z244 hm hd hk hf hr, Z1up ((Z1zr _ _).quiet _), .here ⟨rfl, .returned v, w, hR, ⟨d', rfl⟩, rfl⟩⟩
 | [], .panicking ch, w, fr, hm, hd, ht, hf, hk, h, d => .stepAt fun d' => ⟨_, _, _, _, Z25i hm hd hf, .nil, .here ⟨rfl, .panicked ch, w, h, ⟨d', rfl⟩, rfl⟩⟩
 | [], .run, _, _, _, _, _, _, _, h, _ => h.elim
 | d0 :: ds, u, w, fr, hm, hd, ht, hf, hk, ⟨hu, r, w', h1, h2, h3⟩, d => .stepAt fun d' =>
  ⟨_, _, _, _, Z1xw (by rw [hm]; exact hu) hd h1 (h2 d'), Z1up ((Z1wb _).quiet _), Z1w6 ds u w' { fr with defers := [] ++ ds } hm rfl ht hf hk h3 d'⟩
def Z26j (P : Program) (fn : Func) (R : Ending -> World -> Prop) : Exit -> Act -> World -> Prop
 | .normal, a, w | .ret, a, w => Z1vn P fn a.tmps R a.defers .returning w
 | .panic ch, a, w => Z1vn P fn a.tmps R a.defers (.panicking ch) w
 | _, _, _ => False
theorem Z1yg {f : FuncId} {fn : Func} {c : Code} {args : Array Value} {R : Ending -> World -> Prop} (hf : P.funcs[f]? = some fn) (hb : fn.body = some c)
  (h : wpZ none P c (Z26j P fn R) { tmps := args ++ Array.replicate (fn.ntmps - args.size) undef, defers := [] } w) : Z1vt P f args w R := by
 intro d c0 cs
 let b : Frame := { (default : Frame) with fn := f, kind := .normal, roundOf := none }
 have henter : Frame.enter P f args .normal = b.atR { tmps := args ++ Array.replicate (fn.ntmps - args.size) undef, defers := [] } [.code c] := by
  simp [Frame.enter, Frame.atR, hf, hb, b]
 rw [henter];refine (h d b [] (c0 :: cs) rfl).trans fun fr' cs' w' ⟨hc, e, a', w₀, hq, ⟨d2, hw⟩, hx⟩ => ?_;subst hc hw
 cases e with
 | normal =>
  obtain rfl : fr' = _ := hx;exact .calm (fun _ => Z240 rfl) fun d3 => Z1w6 a'.defers .returning w₀ { b.atR a' [] with mode := .returning } rfl rfl rfl hf rfl hq d3
 | ret =>
  obtain ⟨k₁, rfl⟩ := hx;exact .calm (fun _ => Z21z rfl) fun d3 => Z1w6 a'.defers .returning w₀ { b.atR a' (.code .ret :: k₁) with mode := .returning } rfl rfl rfl hf rfl hq d3
 | panic ch =>
  obtain ⟨k₁, rfl⟩ := hx;exact Z1w6 a'.defers (.panicking ch) w₀ { b.atR a' k₁ with mode := .panicking ch } rfl rfl rfl hf rfl hq d2
 | exit id => exact hq.elim
 | goto l => exact hq.elim
 | outgrown => exact hq.elim
end
section
variable {P : Program} {main : Bool} {b c : Frame} {a : Act} {k : List Item} {cs : List Frame} {w w' : World} {l : Nat}
theorem Z1zs (hb : b.roundOf = some l) (hr : (Instr.beginRound l).run P w = .ok () w') :
  stepG P true (G (b.atR a (.beginRound :: k)) cs) w = .go (G (b.atR a k) cs) w' (seen P b.fn (if (b.kind == .early) = true then #[] else (Instr.beginRound l).events P w #[])) := by
 simp [G, stepG, stepG.exec, stepG.apply, Frame.atR, hb, hr, Result.andThen, Frame.finish, GStep.after, Result.evThen]
theorem Z20i {v : Value} (hb : b.roundOf = some l) (hk : b.kind = .normal) (hr : (Instr.endRound l none).run P w = .ok v w') :
  stepG P main (G (b.atR a []) (c :: cs)) w = .go (G (c.finish v) cs) w' (seen P b.fn ((Instr.endRound l none).events P w #[])) := by
 simp [G, stepG, stepG.exec, Frame.atR, hb, hk, hr, doReturn, GStep.after]
theorem Z20j {v : Value} (hb : b.roundOf = some l) (hk : b.kind = .normal) (hr : (Instr.endRound l (some .ret)).run P w = .ok v w') :
  stepG P main (G (b.atR a (.code .ret :: k)) (c :: cs)) w = .go (G (c.finish v) cs) w' (seen P b.fn ((Instr.endRound l (some .ret)).events P w #[])) := by
 simp [G, stepG, stepG.exec, Frame.atR, hb, hk, hr, doReturn, GStep.after]
theorem Z1zt {id : Nat} {v : Value} (hb : b.roundOf = some l) (hk : b.kind = .normal) (hx : exitTo id k = none) (hr : (Instr.endRound l (some (.exit id))).run P w = .ok v w') :
  stepG P main (G (b.atR a (.code (.exit id) :: k)) (c :: cs)) w = .go (G (c.finish v) cs) w' (seen P b.fn ((Instr.endRound l (some (.exit id))).events P w #[])) := by
 simp [G, stepG, stepG.exec, Frame.atR, hb, hk, hx, hr, doReturn, GStep.after]
theorem Z1zu {t : Nat} {v : Value} (hb : b.roundOf = some l) (hk : b.kind = .normal) (hx : gotoIn t k = none) (hr : (Instr.endRound l (some (.goto t))).run P w = .ok v w') :
  stepG P main (G (b.atR a (.code (.goto t) :: k)) (c :: cs)) w = .go (G (c.finish v) cs) w' (seen P b.fn ((Instr.endRound l (some (.goto t))).events P w #[])) := by
 simp [G, stepG, stepG.exec, Frame.atR, hb, hk, hx, hr, doReturn, GStep.after]
def Z222 (P : Program) (l : Nat) (R : Ending -> World -> Prop) : Exit -> Act -> World -> Prop
 | .normal, _, w => ∀ d, ∃ v w', (Instr.endRound l none).run P (w.at d) = .ok v w' /\ R (.returned v) w'
 | .ret, _, w => ∀ d, ∃ v w', (Instr.endRound l (some .ret)).run P (w.at d) = .ok v w' /\ R (.returned v) w'
 | .exit id, _, w => ∀ d, ∃ v w', (Instr.endRound l (some (.exit id))).run P (w.at d) = .ok v w' /\ R (.returned v) w'
 | .goto t, _, w => ∀ d, ∃ v w', (Instr.endRound l (some (.goto t))).run P (w.at d) = .ok v w' /\ R (.returned v) w'
 | _, _, _ => False
theorem Z20k {f : FuncId} {tmps : Array Value} {assign body : Code} {R : Ending -> World -> Prop}
  (h : wpZ (some l) P assign (Exit.then (fun a₁ w₁ => ∀ d, ∃ w₂, (Instr.beginRound l).run P (w₁.at d) = .ok () w₂ /\ wpZ (some l) P body (Z222 P l R) a₁ w₂) (fun _ _ _ => False)) { tmps := tmps, defers := [] } w) :
  Z1wt P l f tmps assign body w R := by
 intro d c cs
 let b : Frame := { (default : Frame) with fn := f, kind := .normal, roundOf := some l }
 have hb0 : Frame.round l f tmps assign body .normal = b.atR { tmps := tmps, defers := [] } [.code assign, .beginRound, .code body] := by
  simp [Frame.round, Frame.atR, b]
 rw [hb0];refine (h d b [.beginRound, .code body] (c :: cs) rfl).trans fun fr' cs' w' ⟨hc, e, a₁, w₁, hq, ⟨d2, hw⟩, hx⟩ => ?_;subst hc hw
 cases e with
 | normal =>
  obtain rfl : fr' = _ := hx;refine .stepAt fun d3 => ?_;obtain ⟨w₂, hbr, hbody⟩ := hq d3;refine ⟨_, _, _, _, Z1zs (b := b) rfl hbr, ?_, ?_⟩
  ·exact Z1up ((Z1y9 l).quiet _)
  rw [<- World_at_self w₂];refine (hbody w₂.drawn b [] (c :: cs) rfl).trans fun fr'' cs'' w'' ⟨hc, e₂, a₂, w₃, hq₂, ⟨d4, hw⟩, hx₂⟩ => ?_;subst hc hw;have fin : ∀ {v : Value} {w₄ : World}, R (.returned v) w₄ -> Runs P (EndX c cs R) (c.finish v) cs w₄ := fun {v w₄} hR => .here ⟨rfl, .returned v, w₄, hR, ⟨w₄.drawn, rfl⟩, rfl⟩
  cases e₂ with
  | normal =>
   obtain rfl : fr'' = _ := hx₂;refine .stepAt fun d5 => ?_;obtain ⟨v, w₄, hend, hR⟩ := hq₂ d5;exact ⟨_, _, _, _, Z20i rfl rfl hend, Z1up ((Z1vy _ _).quiet _), fin hR⟩
  | ret =>
   obtain ⟨k₁, rfl⟩ := hx₂;refine .stepAt fun d5 => ?_;obtain ⟨v, w₄, hend, hR⟩ := hq₂ d5;exact ⟨_, _, _, _, Z20j rfl rfl hend, Z1up ((Z1vy _ _).quiet _), fin hR⟩
  | exit id =>
   obtain ⟨k₁, hk, rfl⟩ := hx₂;refine .stepAt fun d5 => ?_;obtain ⟨v, w₄, hend, hR⟩ := hq₂ d5;exact ⟨_, _, _, _, Z1zt rfl rfl hk hend, Z1up ((Z1vy _ _).quiet _), fin hR⟩
  | goto t =>
   obtain ⟨k₁, hk, rfl⟩ := hx₂;refine .stepAt fun d5 => ?_;obtain ⟨v, w₄, hend, hR⟩ := hq₂ d5;exact ⟨_, _, _, _, Z1zu rfl rfl hk hend, Z1up ((Z1vy _ _).quiet _), fin hR⟩
  | panic ch => exact hq₂.elim
  | outgrown => exact hq₂.elim
 | _ => exact hq.elim
end
section
variable {P : Program} {b : Frame} {a : Act} {k : List Item} {cs : List Frame} {w : World} {r : Option Nat}
theorem Z1yp {l : Nat} {jump : Option Code} {w' : World} (h : (Instr.endLoop l).run P w = .ok jump w') :
  stepG P true (G (b.atR a (.endRangeFunc l :: k)) cs) w = .go (G (b.atR a ((jump.map Item.code).toList ++ k)) cs) w' (seen P b.fn ((Instr.endLoop l).events P w #[])) := by
 simp [G, stepG, stepG.exec, Frame.atR, h, GStep.after]
theorem Z20l {g : Operand} {ps : Array Tmp} {assign body : Code} {l : Nat} {mark : List Deferred} {w₁ w₁' w₂ : World} {d : Deferred} {f : FuncId} {args : Array Value}
  (he : (Instr.enterLoop b.fn a.tmps ps assign body b.roundOf).run P w = .ok (l, mark) w₁)
  (hres : (resolve a.eval (rangeCall g l) 0).run P w₁ = .ok d w₁') (hinv : (invoke d.target d.args).run P w₁' = .ok (.enter f args) w₂) (hq : Z1uv ((invoke d.target d.args).events P w₁' #[])) :
  ∃ es, stepG P true (G (b.atR a (.code (.rangeFunc g ps assign body) :: k)) cs) w = .go (G (Frame.enter P f args .normal) (b.atR { a with defers := mark ++ a.defers } (.inRangeFunc l :: k) :: cs)) w₂ es /\ Z1uv es := by
 have hev := Frame.eval_atR b { a with defers := mark ++ a.defers } (.inRangeFunc l :: k);simp only [Frame.atR] at hev;have hres' : Sem.run P (resolve ({ tmps := a.tmps, defers := mark ++ a.defers } : Act).eval { callee := .value g, args := #[.const (.func (.yield l) #[] #[])], argTypes := #[] } 0) w₁ = .ok d w₁' := hres;have hqr : Z1uv ((resolve a.eval (rangeCall g l) 0).events P w₁ #[]) := (Z1t0 _ _ _).quiet _;have hqr' : Z1uv ((resolve ({ tmps := a.tmps, defers := mark ++ a.defers } : Act).eval { callee := .value g, args := #[.const (.func (.yield l) #[] #[])], argTypes := #[] } 0).events P w₁ #[]) := hqr;have hq2 : ∀ es, Z1uv es -> Z1uv ((invoke d.target d.args).events P w₁' es) := fun es h => by
  rw [Sem.events_acc]; exact h.app hq
 refine ⟨_, by
  simp only [G, stepG, stepG.exec, Frame.atR, Sem.runT_eq, he, stepG.apply, hev, Sem.run_bind, hres', hinv, Result.andThen, if_true, GStep.after, Sem.events_bind, Result.evThen]
  rfl, ?_⟩
 refine (Z1up ((Z1yo _ _ _ _ _ _).quiet _)).app (Z1up ?_)
 split
 ·exact .nil
 ·exact hq2 _ hqr'
def Z1wu (P : Program) (r : Option Nat) (l : Nat) (Q : Exit -> Act -> World -> Prop) (a' : Act) : Ending -> World -> Prop
  | .returned _, w₃ => ∀ d, ∃ jump w₄, (Instr.endLoop l).run P (w₃.at d) = .ok jump w₄ /\
      (match jump with
       | none => Q .normal a' w₄
       | some c => wpZ r P c Q a' w₄)
  | .panicked ch, w₃ => Q (.panic ch) a' w₃
  | .outgrown, _ => False
theorem Z1yq {l : Nat} {Q Q' : Exit -> Act -> World -> Prop} {a' : Act} (hq : ∀ e a w, Q e a w -> Q' e a w) {e : Ending} {w₃ : World} (h : Z1wu P r l Q a' e w₃) : Z1wu P r l Q' a' e w₃ := by
 cases e with
 | returned v =>
  intro d;obtain ⟨jump, w₄, h1, h2⟩ := h d;refine ⟨jump, w₄, h1, ?_⟩
  cases jump with
  | none => exact hq _ _ _ h2
  | some c => exact Z1us h2 hq
 | panicked ch => exact hq _ _ _ h
 | outgrown => exact h
theorem Z1zv {g : Operand} {ps : Array Tmp} {assign body : Code} {Q : Exit -> Act -> World -> Prop}
  (h : ∀ (fn : FuncId) (n : Nat), ∃ (l : Nat) (mark : List Deferred) (w₁ : World) (d : Deferred) (w₁' : World) (f : FuncId) (args : Array Value) (w₂ : World),
   (Instr.enterLoop fn a.tmps ps assign body r).run P (w.at n) = .ok (l, mark) w₁ /\
   (resolve a.eval (rangeCall g l) 0).run P w₁ = .ok d w₁' /\
   (invoke d.target d.args).run P w₁' = .ok (.enter f args) w₂ /\ Z1uv ((invoke d.target d.args).events P w₁' #[]) /\
   Z1vt P f args w₂ (Z1wu P r l Q { a with defers := mark ++ a.defers })) : wpZ r P (.rangeFunc g ps assign body) Q a w := by
 intro d0 b k cs hb;refine .stepAt fun n => ?_;obtain ⟨l, mark, w₁, d, w₁', f, args, w₂, he, hres, hinv, hqe, hcall⟩ := h b.fn n;rw [<- hb] at he;obtain ⟨es, hst, hq⟩ := Z20l (k := k) (cs := cs) he hres hinv hqe;refine ⟨_, _, _, es, hst, hq, ?_⟩;rw [<- World_at_self w₂];refine (hcall w₂.drawn _ cs).trans fun fr' cs' w' ⟨hc, e, w₃, hR, ⟨d2, hw⟩, hx⟩ => ?_;subst hc hw
 cases e with
 | returned v =>
  obtain rfl : fr' = _ := hx;rw [finish_atR_inRangeFunc];refine .stepAt fun n2 => ?_;obtain ⟨jump, w₄, hend, hj⟩ := hR n2;refine ⟨_, _, _, _, Z1yp hend, Z1up ((Z1zq _).quiet _), ?_⟩;rw [<- World_at_self w₄]
  cases jump with
  | none => exact Z1tw (e := .normal) hj rfl
  | some c => exact hj w₄.drawn b k cs' hb
 | panicked ch => obtain rfl : fr' = _ := hx; exact Z1tw (e := .panic ch) hR ⟨_, Frame.raise_atR _ _ _ _⟩
 | outgrown => exact hx.elim
end
end Go.Abs

namespace Go.Abs
open Go Go.Conc
section
variable {P : Program} {r : Option Nat} {ops : Array Oper} {Q : Exit -> Act -> World -> Prop}
def op1Z (r : Option Nat) (P : Program) (ops : Array Oper) (Q : Exit -> Act -> World -> Prop) (i : Nat) (K : Act -> World -> Prop) (a : Act) (w : World) : Prop :=
 match ops[i]? with
 | none => K a w
 | some o => if Region.wanted o (yielded ops a.tmps) then opZ P r o a K Q w else K (a.put o.dst undef) w
def anyZ (r : Option Nat) (P : Program) (ops : Array Oper) (Q : Exit -> Act -> World -> Prop) : Nat -> Array Bool -> Act -> World -> Prop
 | 0, listed, a, w => Region.ready .any ops listed = [] /\ ∀ d, Q .normal a (w.at d)
 | fuel + 1, listed, a, w =>
  (Region.ready .any ops listed = [] -> ∀ d, Q .normal a (w.at d)) /\
  ∀ i ∈ Region.ready .any ops listed, ∀ d, op1Z r P ops Q i (anyZ r P ops Q fuel (listed.setIfInBounds i true)) a (w.at d)
theorem Z1zz {i : Nat} {Q' : Exit -> Act -> World -> Prop} {K K' : Act -> World -> Prop} (hk : ∀ a w, K a w -> K' a w) (hq : ∀ e a w, Q e a w -> Q' e a w) {a : Act} {w : World} (h : op1Z r P ops Q i K a w) : op1Z r P ops Q' i K' a w := by
 unfold op1Z at h ⊢
 split
 ·rename_i ho; rw [ho] at h; exact hk _ _ h
 ·rename_i o ho
  rw [ho] at h;simp only at h
  split
  ·rename_i hw; rw [if_pos hw] at h; exact Z1z0 hk hq h
  ·rename_i hw; rw [if_neg hw] at h; exact hk _ _ h
theorem Z1vw {Q' : Exit -> Act -> World -> Prop} (hq : ∀ e a w, Q e a w -> Q' e a w) : ∀ (fuel : Nat) (listed : Array Bool) (a : Act) (w : World), anyZ r P ops Q fuel listed a w -> anyZ r P ops Q' fuel listed a w
 | 0, _, _, _, h => ⟨h.1, fun d => hq _ _ _ (h.2 d)⟩
 | fuel + 1, _, _, _, h => ⟨fun e d => hq _ _ _ (h.1 e d), fun i hi d => Z1zz (Z1vw hq fuel _) hq (h.2 i hi d)⟩
theorem Z200 : ∀ (fuel t : Nat) (listed : Array Bool) (a : Act) (w : World), anyZ r P ops Q fuel listed a w -> ∀ (b : Frame) (k : List Item) (cs : List Frame), b.roundOf = r -> ∀ d,
  Runs P (Arr b k cs Q) (b.atR a (.inRegion ops (Region.linearise.go .any ops fuel t listed []) :: k)) cs (w.at d)
 | 0, _, _, a, w, h, b, k, cs, _, d => by
  simp only [Region.linearise.go, List.reverse_nil];exact .calm (fun _ => Z1vj) fun d' => Z1tw (e := .normal) (w₀ := w.at d') (d := d') (h.2 d') rfl
 | fuel + 1, t, listed, a, w, h, b, k, cs, hb, d => by
  obtain ⟨h₀, h₁⟩ := h;simp only [Region.linearise.go]
  change Runs P (Arr b k cs Q) (b.atR a (.inRegion ops (match (Region.ready .any ops listed)[t % (Region.ready .any ops listed).length]? with
   | some i => Region.linearise.go .any ops fuel (t / (Region.ready .any ops listed).length) (listed.setIfInBounds i true) [i]
   | none => [].reverse) :: k)) cs (w.at d)
  cases hi : (Region.ready .any ops listed)[t % (Region.ready .any ops listed).length]? with
  | none =>
   have hnil : Region.ready .any ops listed = [] := by
    cases hr : Region.ready .any ops listed with
    | nil => rfl
    | cons x xs =>
     rw [hr] at hi;have hlt : t % (x :: xs).length < (x :: xs).length := Nat.mod_lt _ (by simp);simp at hi;simp at hlt;omega
   exact .calm (fun _ => Z1vj) fun d' => Z1tw (e := .normal) (w₀ := w.at d') (d := d') (h₀ hnil d') rfl
  | some i =>
   simp only [];rw [linearise_go_acc, List.reverse_singleton, List.singleton_append];have h1 := h₁ i (List.mem_of_getElem? hi);have next : ∀ a' w₀, anyZ r P ops Q fuel (listed.setIfInBounds i true) a' w₀ -> ∀ d, Runs P (Arr b k cs Q) (b.atR a' (.inRegion ops (Region.linearise.go .any ops fuel (t / (Region.ready .any ops listed).length) (listed.setIfInBounds i true) []) :: k)) cs (w₀.at d) :=
    fun a' w₀ hn d => Z200 fuel _ _ a' w₀ hn b k cs hb d
   cases ho : ops[i]? with
   | none =>
    refine .calm (fun _ => Z1ws (by simp [ho])) fun d' => ?_;simp only [ho, Option.bind_none, Act.put];have h2 := h1 d';simp only [op1Z, ho] at h2;exact next _ _ h2 d'
   | some o =>
    by_cases hw : Region.wanted o (yielded ops a.tmps) = true
    ·exact Z22s ho hw hb next (fun d' => by have h2 := h1 d'; simp only [op1Z, ho, hw, if_true] at h2; exact h2) d
    ·refine .calm (fun _ => Z1ws (by simp [ho]; simpa using hw)) fun d' => ?_;simp only [ho, Option.bind_some];have h2 := h1 d';simp only [op1Z, ho, hw, if_false, Bool.false_eq_true] at h2;exact next _ _ h2 d'
theorem Z1z1 {id : Nat} {a : Act} {w : World} (hm : P.follows .mixedOrders = true) (h : ∀ d, anyZ r P ops Q ops.size (Array.replicate ops.size false) a (w.at d)) : wpZ r P (.region id ops true) Q a w := by
 intro d b k cs hb;refine .stepAt fun d' => ⟨_, _, _, #[], Z1x5, .nil, ?_⟩;simp only [Region.schedule, hm, Bool.true_or, if_true];exact Z200 ops.size _ _ a (w.at (d' + 1)) (h (d' + 1)) b k cs hb (d' + 1)
end
end Go.Abs

set_option linter.unusedSimpArgs false
namespace Go.Abs
open Go
theorem Z1wv : ∀ a, Z1q0 (Conv.seenAt a) := by
 intro a;unfold Conv.seenAt
 repeat' (first | (with_reducible apply Z1q0.bind) | (with_reducible exact Z1r5 _) | (with_reducible apply Z1rd) | (simp only [Z1qa, Z1r9, Z1qu, Z1qh, Z1qv, Z1ql, Z1qm, Z1qi, Z1qg, Z1qj, Z1qc, Z1qw, Z1pv, Z1qd, Z1qx, Z1qy, Z1qn, Z1q4, Z1qe, Z1q6, Z1pu, Z1qq, Z1pt, Z1q2, Z1q9, Z1qb, Z1q7, Z1pz, Z1qo, Z1q5, Z1r0, Z1rb, Z1py, Z1pw, Z1q1, Z1q8, Z1qr, Z1qk, Z1r3, Z1r6, Z1r7, Z1ru, Z1px, Z1q3, Z1r2, Z1rk, Z1rc, Z1qt, Z1rn, Z1rf, Z1vv, Z1qz, Z1rg, Z1r8, Z1rt, Z1sf, Z1rw, Z1qp, Z1rm, Z1rp, Z1qs, Z1rh, Z1ri, Z1s2, Z1s3, Z1rl, Z1re, Z1qf, Z1rq, Z1ra, Z1r4, Z1r1, Z1sc, Z1rx, Z1rr, Z1rz, Z1s8, Z1sa, Z1sg, Z1ry, Z1sh, Z1s6, Z1sj, Z1rv, Z1s9, Z1s4, Z1rs, Z1se, Z1rj, Z1si, Z1s1, Z1sb, Z1s0, Z1sv, Z1ss, Z1st, Z1s5, Z1su, Z1s7, Z1sd, Z1sk, Z1sn, Z1ta, Z1tc, Z1t9, Z1sw, Z1t3, Z1tb, Z1td, Z1tg, Z1tj, Z1t2, Z1sp, Z1t0, Z1sy, Z1sq, Z1sl, Z1sm, Z1so, Z1sr, Z1t6, Z1sz, Z1sx, Z1t7, Z1te, Z1t4, Z1tn, Z1u6, Z1tx, Z1ub, Z1uc, Z1uh, Z1uk, Z1tz, Z1tv, Z1u7, Z1uf, Z1ui, Z1ur, Z1ux, Z1v2, Z1vc, Z1v3, Z1va, Z1v0]; done) | (with_reducible apply Z1ro) | (with_reducible apply Z1t1) | (with_reducible apply Z1q0.map) | split | (with_reducible intro _) | (dsimp only) | exact trivial)
theorem Z1wc : ∀ a u n, Z1q0 (variablesAt a u n) := by
 intro a u n;unfold variablesAt
 repeat' (first | (with_reducible apply Z1q0.bind) | (with_reducible exact Z1r5 _) | (with_reducible apply Z1rd) | (simp only [Z1qa, Z1r9, Z1qu, Z1qh, Z1qv, Z1ql, Z1qm, Z1qi, Z1qg, Z1qj, Z1qc, Z1qw, Z1pv, Z1qd, Z1qx, Z1qy, Z1qn, Z1q4, Z1qe, Z1q6, Z1pu, Z1qq, Z1pt, Z1q2, Z1q9, Z1qb, Z1q7, Z1pz, Z1qo, Z1q5, Z1r0, Z1rb, Z1py, Z1pw, Z1q1, Z1q8, Z1qr, Z1qk, Z1r3, Z1r6, Z1r7, Z1ru, Z1px, Z1q3, Z1r2, Z1rk, Z1rc, Z1qt, Z1rn, Z1rf, Z1vv, Z1qz, Z1rg, Z1r8, Z1rt, Z1sf, Z1rw, Z1qp, Z1rm, Z1rp, Z1qs, Z1rh, Z1ri, Z1s2, Z1s3, Z1rl, Z1re, Z1qf, Z1rq, Z1ra, Z1r4, Z1r1, Z1sc, Z1rx, Z1rr, Z1rz, Z1s8, Z1sa, Z1sg, Z1ry, Z1sh, Z1s6, Z1sj, Z1rv, Z1s9, Z1s4, Z1rs, Z1se, Z1rj, Z1si, Z1s1, Z1sb, Z1s0, Z1sv, Z1ss, Z1st, Z1s5, Z1su, Z1s7, Z1sd, Z1sk, Z1sn, Z1ta, Z1tc, Z1t9, Z1sw, Z1t3, Z1tb, Z1td, Z1tg, Z1tj, Z1t2, Z1sp, Z1t0, Z1sy, Z1sq, Z1sl, Z1sm, Z1so, Z1sr, Z1t6, Z1sz, Z1sx, Z1t7, Z1te, Z1t4, Z1tn, Z1u6, Z1tx, Z1ub, Z1uc, Z1uh, Z1uk, Z1tz, Z1tv, Z1u7, Z1uf, Z1ui, Z1ur, Z1ux, Z1v2, Z1vc, Z1v3, Z1va, Z1v0, Z1wv]; done) | (with_reducible apply Z1ro) | (with_reducible apply Z1t1) | (with_reducible apply Z1q0.map) | split | (with_reducible intro _) | (dsimp only) | exact trivial)
theorem Z1xj : ∀ s d x, Z1q0 (Conv.unsafePointer s d x) := by
 intro s d x;unfold Conv.unsafePointer
 repeat' (first | (with_reducible apply Z1q0.bind) | (with_reducible exact Z1r5 _) | (with_reducible apply Z1rd) | (simp only [Z1qa, Z1r9, Z1qu, Z1qh, Z1qv, Z1ql, Z1qm, Z1qi, Z1qg, Z1qj, Z1qc, Z1qw, Z1pv, Z1qd, Z1qx, Z1qy, Z1qn, Z1q4, Z1qe, Z1q6, Z1pu, Z1qq, Z1pt, Z1q2, Z1q9, Z1qb, Z1q7, Z1pz, Z1qo, Z1q5, Z1r0, Z1rb, Z1py, Z1pw, Z1q1, Z1q8, Z1qr, Z1qk, Z1r3, Z1r6, Z1r7, Z1ru, Z1px, Z1q3, Z1r2, Z1rk, Z1rc, Z1qt, Z1rn, Z1rf, Z1vv, Z1qz, Z1rg, Z1r8, Z1rt, Z1sf, Z1rw, Z1qp, Z1rm, Z1rp, Z1qs, Z1rh, Z1ri, Z1s2, Z1s3, Z1rl, Z1re, Z1qf, Z1rq, Z1ra, Z1r4, Z1r1, Z1sc, Z1rx, Z1rr, Z1rz, Z1s8, Z1sa, Z1sg, Z1ry, Z1sh, Z1s6, Z1sj, Z1rv, Z1s9, Z1s4, Z1rs, Z1se, Z1rj, Z1si, Z1s1, Z1sb, Z1s0, Z1sv, Z1ss, Z1st, Z1s5, Z1su, Z1s7, Z1sd, Z1sk, Z1sn, Z1ta, Z1tc, Z1t9, Z1sw, Z1t3, Z1tb, Z1td, Z1tg, Z1tj, Z1t2, Z1sp, Z1t0, Z1sy, Z1sq, Z1sl, Z1sm, Z1so, Z1sr, Z1t6, Z1sz, Z1sx, Z1t7, Z1te, Z1t4, Z1tn, Z1u6, Z1tx, Z1ub, Z1uc, Z1uh, Z1uk, Z1tz, Z1tv, Z1u7, Z1uf, Z1ui, Z1ur, Z1ux, Z1v2, Z1vc, Z1v3, Z1va, Z1v0, Z1wv, Z1wc]; done) | (with_reducible apply Z1ro) | (with_reducible apply Z1t1) | (with_reducible apply Z1q0.map) | split | (with_reducible intro _) | (dsimp only) | exact trivial)
theorem Z1zw : ∀ s d x, Z1q0 (convert s d x) := by
 intro s d x;unfold convert
 repeat' (first | (with_reducible apply Z1q0.bind) | (with_reducible exact Z1r5 _) | (with_reducible apply Z1rd) | (simp only [Z1qa, Z1r9, Z1qu, Z1qh, Z1qv, Z1ql, Z1qm, Z1qi, Z1qg, Z1qj, Z1qc, Z1qw, Z1pv, Z1qd, Z1qx, Z1qy, Z1qn, Z1q4, Z1qe, Z1q6, Z1pu, Z1qq, Z1pt, Z1q2, Z1q9, Z1qb, Z1q7, Z1pz, Z1qo, Z1q5, Z1r0, Z1rb, Z1py, Z1pw, Z1q1, Z1q8, Z1qr, Z1qk, Z1r3, Z1r6, Z1r7, Z1ru, Z1px, Z1q3, Z1r2, Z1rk, Z1rc, Z1qt, Z1rn, Z1rf, Z1vv, Z1qz, Z1rg, Z1r8, Z1rt, Z1sf, Z1rw, Z1qp, Z1rm, Z1rp, Z1qs, Z1rh, Z1ri, Z1s2, Z1s3, Z1rl, Z1re, Z1qf, Z1rq, Z1ra, Z1r4, Z1r1, Z1sc, Z1rx, Z1rr, Z1rz, Z1s8, Z1sa, Z1sg, Z1ry, Z1sh, Z1s6, Z1sj, Z1rv, Z1s9, Z1s4, Z1rs, Z1se, Z1rj, Z1si, Z1s1, Z1sb, Z1s0, Z1sv, Z1ss, Z1st, Z1s5, Z1su, Z1s7, Z1sd, Z1sk, Z1sn, Z1ta, Z1tc, Z1t9, Z1sw, Z1t3, Z1tb, Z1td, Z1tg, Z1tj, Z1t2, Z1sp, Z1t0, Z1sy, Z1sq, Z1sl, Z1sm, Z1so, Z1sr, Z1t6, Z1sz, Z1sx, Z1t7, Z1te, Z1t4, Z1tn, Z1u6, Z1tx, Z1ub, Z1uc, Z1uh, Z1uk, Z1tz, Z1tv, Z1u7, Z1uf, Z1ui, Z1ur, Z1ux, Z1v2, Z1vc, Z1v3, Z1va, Z1v0, Z1wv, Z1wc, Z1xj]; done) | (with_reducible apply Z1vm) | (with_reducible apply Z1ro) | (with_reducible apply Z1t1) | (with_reducible apply Z1q0.map) | split | (with_reducible intro _) | (dsimp only) | exact trivial)
def Z1z2 : Op -> Bool
 | .nilCheck _ | .sliceToArrayPointer .. | .go _ | .send .. | .recv .. | .select .. | .panic _ | .makeChan .. | .ready _ | .waits _ => false
 | .call { callee := .builtin b, .. } => (match b with | .append | .cap | .len | .max | .min | .copy | .delete | .clear => true | _ => false)
 | .call _ => false
 | _ => true
theorem Z20m (ρ : Operand -> Value) (o : Oper) (h : Z1z2 o.op = true) : Z1q0 (execOp ρ o) := by
 have hv : ∀ s : Sem Value, Z1q0 s -> Z1q0 (do pure (Next.value (<- s)) : Sem Next) := fun s hs => Z1q0.bind hs fun _ => trivial;have hu : ∀ s : Sem Unit, Z1q0 s -> Z1q0 (do s; pure Next.skip : Sem Next) := fun s hs => Z1q0.bind hs fun _ => trivial;obtain ⟨dst, op, type, pos, after, guard⟩ := o
 cases op <;> first | (cases h; done) | skip
 all_goals simp only [execOp]
 case move => exact trivial
 case assign => exact trivial
 case pick => exact Z1q0.bind (Z1rc _) fun _ => trivial
 case alloc => exact hv _ (Z1rt _ _ _)
 case box => exact hv _ (Z1sf _ _)
 case build => exact hv _ (Z1rw _ _)
 case buildSlice => exact hv _ (Z1qp _ _ _)
 case load => exact hv _ (Z1rg _ _)
 case store => exact hu _ (Z1r8 _ _ _)
 case binOp => exact hv _ (Z1q0.bind (Z1s9 _ _ _ _ _ _) fun _ => Z1vc _ _ _ _)
 case unOp => exact hv _ (Z1sh _ _)
 case convert => exact hv _ (Z1zw _ _ _)
 case makeInterface => exact hv _ (Z1qf _ _)
 case makeFunc => exact hv _ (Z1re _ _ _)
 case makeMap => exact hv _ (Z1rq _ _)
 case makeSlice => exact hv _ (Z1ra _ _ _)
 case slice => exact hv _ (Z1rx _ _ _ _ _)
 case fieldAddr => exact hv _ (Z1rh _ _ _)
 case field => exact hv _ (Z1s2 _ _ _)
 case indexAddr => exact hv _ (Z1ri _ _ _)
 case index => exact hv _ (Z1s3 _ _ _)
 case lookup => exact hv _ (Z1si _ _ _ _)
 case mapUpdate => exact hu _ (Z1s1 _ _ _ _)
 case insert => exact hu _ (Z1s1 _ _ _ _)
 case mapEntry => exact hv _ (Z1sb _ _ _)
 case entryStore => exact hu _ (Z1s0 _ _ _ _)
 case range => exact hv _ (Z1st _ _)
 case next => exact hv _ (Z1sv _ _ _)
 case entry => exact hv _ (Z1ss _)
 case typeAssert => exact hv _ (Z1s5 _ _ _ _)
 case extract => exact hv _ (Z1rl _ _)
 case defer => exact Z1q0.bind (Z1t0 _ _ _) fun _ => trivial
 case call c =>
  obtain ⟨callee, args, argTypes⟩ := c
  cases callee with
  | value f => cases h
  | invoke r m => cases h
  | builtin b =>
   cases b <;> first | (cases h; done) | skip
   case append => exact hv _ (Z1t2 _ _ _)
   case cap => exact hv _ (Z1ta _ _ _)
   case len => exact hv _ (Z1tc _ _ _)
   case max => exact hv _ (Z1tg _ _ _)
   case min => exact hv _ (Z1tj _ _ _)
   case copy => exact hv _ (Z1t9 _ _ _)
   case delete => exact hv _ (Z1sw _ _ _)
   case clear => exact hv _ (Z1t3 _ _ _)
theorem Z1z3 {P : Program} {ρ : Operand -> Value} {o : Oper} (h : Z1z2 o.op = true) (w : World) : Z1uv ((execOp ρ o).events P w #[]) := (Z20m ρ o h).quiet w
theorem Z1w4 {P : Program} {f : FuncId} {fn : Func} (hf : P.funcs[f]? = some fn) (hb : fn.body.isSome = true) (hnm : (fn.name == "runtime.NumGoroutine") = false) (args : Array Value) (w : World) (es : Array Event) : (callFunc f args).events P w es = es := by
 obtain ⟨c, hc⟩ := Option.isSome_iff_exists.1 hb;have hnm2 : ¬ fn.name = "runtime.NumGoroutine" := by simpa using hnm
 unfold callFunc;rw [Sem.events_bind];have h1 : (program : Sem Program).run P w = .ok P w := rfl;have h2 : (program : Sem Program).events P w es = es := rfl;rw [h1, h2];simp [hf, hc, hnm2, Result.evThen]
end Go.Abs

namespace Go.Abs
open Go Go.Conc
inductive AX where
 | normal
 | exit (id : Nat)
 | ret
 | goto (l : Nat)
 | pan (d : D)
def XR (F : Fz) (μ : Mu) : Exit -> AX -> Prop
 | .normal, .normal => True
 | .exit i, .exit j => i = j
 | .ret, .ret => True
 | .goto i, .goto j => i = j
 | .panic ch, .pan d => ∃ v, ch = [{ v := v, recovered := false }] /\ VR F μ d v
 | _, _ => False
def Z4f (F : Fz) (μ : Mu) (H : List Blk) (w : World) (m : Nat) (Q : AX -> St -> Prop) (e : Exit) (a' : Act) (w' : World) : Prop :=
 ∃ F' μ' s' x, Post F μ H w F' μ' s'.H w' /\ Kp m μ H μ' s'.H /\ RL m F' μ' s' a' w' /\ XR F' μ' e x /\ Q x s'
structure WpA (P : Program) (r : Option Nat) (m : Nat) (c : Code) (Q : AX -> St -> Prop) (s : St) : Prop where
 out : ∀ F μ a w, RL m F μ s a w -> wpZ r P c (Z4f F μ s.H w m Q) a w
section
variable {P : Program} {r : Option Nat} {m : Nat} {Q Q' : AX -> St -> Prop} {s : St}
theorem Post.ofAt {F : Fz} {μ : Mu} {H : List Blk} {w : World} {n : Nat} {F' : Fz} {μ' : Mu} {H' : List Blk} {w' : World} (h : Post F μ H (w.at n) F' μ' H' w') : Post F μ H w F' μ' H' w' := ⟨h.mono, h.back, h.size, h.tape, h.os, h.output, h.keep⟩
theorem Z4f.ofAt {F : Fz} {μ : Mu} {H : List Blk} {w : World} {n : Nat} {e : Exit} {a' : Act} {w' : World} (h : Z4f F μ H (w.at n) m Q e a' w') : Z4f F μ H w m Q e a' w' :=
 let ⟨F', μ', s', x, h1, h2, h3, h4, h5⟩ := h; ⟨F', μ', s', x, h1.ofAt, h2, h3, h4, h5⟩
theorem Z4f.mono {F : Fz} {μ : Mu} {H : List Blk} {w : World} {e : Exit} {a' : Act} {w' : World} (h : Z4f F μ H w m Q e a' w') (hq : ∀ x s, Q x s -> Q' x s) : Z4f F μ H w m Q' e a' w' := by
 obtain ⟨F', μ', s', x, h1, h2, h3, h4, h5⟩ := h;exact ⟨F', μ', s', x, h1, h2, h3, h4, hq _ _ h5⟩
theorem Z4f.trans {F F' : Fz} {μ μ' : Mu} {H H' : List Blk} {w w' : World} {e : Exit} {a'' : Act} {w'' : World} (h0 : Post F μ H w F' μ' H' w') (hm : Kp m μ H μ' H')
  (h : Z4f F' μ' H' w' m Q e a'' w'') : Z4f F μ H w m Q e a'' w'' := by
 obtain ⟨F'', μ'', s', x, h1, h2, h3, h4, h5⟩ := h;exact ⟨F'', μ'', s', x, h0.trans h1, hm.trans h2, h3, h4, h5⟩
theorem Z4f.here {F : Fz} {μ : Mu} {w : World} {e : Exit} {a : Act} {x : AX} (h1 : RL m F μ s a w) (h3 : XR F μ e x) (h4 : Q x s) : Z4f F μ s.H w m Q e a w :=
 ⟨F, μ, s, x, Post.refl _ _ _ _, .refl _ _ _, h1, h3, h4⟩
theorem Z94 {c : Code} (h : WpA P r m c Q s) (hq : ∀ x s, Q x s -> Q' x s) : WpA P r m c Q' s :=
 ⟨fun F μ a w h1 => Z1us (h.out F μ a w h1) fun _ _ _ h => h.mono hq⟩
def Zb1 (K : St -> Prop) (Q : AX -> St -> Prop) : AX -> St -> Prop
 | .normal, s => K s
 | x, s => Q x s
def Zi3 (id : Nat) (Q : AX -> St -> Prop) : AX -> St -> Prop
 | .exit id', s => if id' = id then Q .normal s else Q (.exit id') s
 | x, s => Q x s
theorem Z4f.thenA {F : Fz} {μ : Mu} {H : List Blk} {w : World} {K : St -> Prop} {next : Act -> World -> Prop} {e : Exit} {a : Act} {w' : World}
  (h : Z4f F μ H w m (Zb1 K Q) e a w') (hn : ∀ F' μ' s', Post F μ H w F' μ' s'.H w' -> Kp m μ H μ' s'.H -> RL m F' μ' s' a w' -> K s' -> next a w') :
  Exit.then next (Z4f F μ H w m Q) e a w' := by
 obtain ⟨F', μ', s', x, h1, h2, h3, h5, h6⟩ := h
 cases e <;> cases x <;> try exact h5.elim
 ·exact hn F' μ' s' h1 h2 h3 h6
 all_goals exact ⟨F', μ', s', _, h1, h2, h3, h5, h6⟩
theorem Znq {x y : Code} (h : WpA P r m x (Zb1 (WpA P r m y Q) Q) s) : WpA P r m (.seq x y) Q s :=
 ⟨fun F μ a w h1 => Z25h (Z1us (h.out F μ a w h1) fun _ _ _ hp => hp.thenA fun F' μ' _ p1 p2 p3 p5 =>
  Z1us (p5.out F' μ' _ _ p3) fun _ _ _ hq => hq.trans p1 p2)⟩
theorem Zje (h : Q .normal s) : WpA P r m .skip Q s := ⟨fun _ _ _ _ h1 => Z241 (.here h1 (x := .normal) trivial h)⟩
theorem Zgi {l : Nat} (h : Q .normal s) : WpA P r m (.label l) Q s := ⟨fun _ _ _ _ h1 => Z23a (.here h1 (x := .normal) trivial h)⟩
theorem Znr (h : Q .ret s) : WpA P r m .ret Q s := ⟨fun _ _ _ _ h1 => Z22r (.here h1 (x := .ret) trivial h)⟩
theorem Zjf {id : Nat} (h : Q (.exit id) s) : WpA P r m (.exit id) Q s := ⟨fun _ _ _ _ h1 => Z20y (.here h1 (x := .exit id) rfl h)⟩
theorem Zgj {id : Nat} {c : Code} (h : WpA P r m c (Zi3 id Q) s) : WpA P r m (.block id c) Q s :=
 ⟨fun F μ a w h1 => Z23b (Z1us (h.out F μ a w h1) fun e a' w' hp => by
  obtain ⟨F', μ', s', x, p1, p2, p3, p5, p6⟩ := hp
  cases e <;> cases x <;> try exact p5.elim
  case exit.exit i j =>
   obtain rfl : i = j := p5
   simp only [Exit.inBlock]
   simp only [Zi3] at p6
   split
   ·rename_i hi; rw [if_pos hi] at p6; exact ⟨F', μ', s', .normal, p1, p2, p3, trivial, p6⟩
   ·rename_i hi; rw [if_neg hi] at p6; exact ⟨F', μ', s', .exit i, p1, p2, p3, rfl, p6⟩
  all_goals exact ⟨F', μ', s', _, p1, p2, p3, p5, p6⟩)⟩
def ofV : Value -> D
 | .agg cs => if cs.all (·.oneCell') then .agg (cs.toList.map .v) else .any
 | .tuple _ => .any
 | x => .v x
def evo (env : List (Nat × D)) : Operand -> Option D
 | .tmp t => Z1c env t
 | .const v => some (ofV v)
 | .global g => some (.v (.pointer (some ⟨g, 0, none⟩)))
 | .func f => some (.fn f [])
theorem CR.ofV {F : Fz} (v : Value) : CR F (ofV v) v := by
 cases v
 case agg cs =>
  show CR F (if cs.all (·.oneCell') then D.agg (cs.toList.map D.v) else D.any) (.agg cs)
  split
  ·rename_i hall
   have hone : ∀ (i : Nat) (v : Value), cs[i]? = some v -> v.oneCell' = true := fun i v hv => by
    obtain ⟨hi, rfl⟩ := Array.getElem?_eq_some_iff.1 hv;exact (Array.all_eq_true.1 hall) i hi
   refine .agg _ _ (by simp) (fun i c v h1 h2 => ?_) hone;simp only [List.getElem?_map, Option.map_eq_some_iff] at h1;obtain ⟨x, hx, rfl⟩ := h1;rw [Array.getElem?_toList] at hx;obtain rfl := Option.some.inj (hx.symm.trans h2);exact .v _ (hone i _ h2)
  ·exact .any _
 case tuple cs => exact .any _
 all_goals exact .v _ rfl
theorem ER.evo {F : Fz} {μ : Mu} {a : Act} (h : ER F μ s a) {x : Operand} {d : D} (hd : evo s.env x = some d) : VR F μ d (a.eval x) := by
 cases x with
 | tmp t =>
  obtain ⟨v, h1, h2⟩ := h.env t d hd;simp only [Act.eval, Array.getD_eq_getD_getElem?, h1, Option.getD_some];exact h2
 | const v => obtain rfl := Option.some.inj hd; exact .cl _ _ (CR.ofV v)
 | global g => obtain rfl := Option.some.inj hd; exact .cl _ _ (.v _ rfl)
 | func f => obtain rfl := Option.some.inj hd; exact .cl _ _ (.fn f [] #[] rfl (fun i c v h => by simp at h))
theorem VR.bool {F : Fz} {μ : Mu} {t : Bool} {v : Value} (h : VR F μ (.v (.bool t)) v) : v = .bool t := by
 cases h with | cl _ _ h => cases h; rfl
theorem VR.v_inv {F : Fz} {μ : Mu} {x v : Value} (h : VR F μ (.v x) v) : v = x := by
 cases h with | cl _ _ h => cases h; rfl
theorem Zjg {c : Operand} {x y : Code} {t : Bool} (hc : evo s.env c = some (.v (.bool t))) (ht : t = true -> WpA P r m x Q s) (hf : t = false -> WpA P r m y Q s) : WpA P r m (.cond c x y) Q s :=
 ⟨fun F μ a w h1 => Z1yz (h1.er.evo hc).bool (fun h => (ht h).out F μ a w h1) (fun h => (hf h).out F μ a w h1)⟩
theorem Za7 {p : Nat -> Prop} (h : ∃ n, p n) : ∃ n, p n /\ ∀ k, p k -> n <= k := by
 obtain ⟨n, hn⟩ := h
 induction n using Nat.strongRecOn with
 | _ n ih =>
  by_cases hk : ∃ k, k < n /\ p k
  ·obtain ⟨k, hk, hp⟩ := hk; exact ih k hk hp
  ·exact ⟨n, hn, fun k hp => Nat.le_of_not_lt fun hlt => hk ⟨k, hlt, hp⟩⟩
theorem Zjh {c : Code} (I : St -> Prop) (ms : St -> Nat) (h0 : I s)
  (round : ∀ s, I s -> WpA P r m c (Zb1 (fun s' => I s' /\ ms s' < ms s) Q) s) : WpA P r m (.loop c) Q s := by
 refine ⟨fun F μ a w h1 => ?_⟩
 let Inv : Nat -> Act -> World -> Prop := fun n a' w' => ∃ F' μ' s', Post F μ s.H w F' μ' s'.H w' /\ Kp m μ s.H μ' s'.H /\ RL m F' μ' s' a' w' /\ I s' /\ ms s' = n
 have hch : ∀ a' w', (∃ n, Inv n a' w') -> ∃ n, Inv n a' w' /\ ∀ k, Inv k a' w' -> n <= k := fun a' w' h => Za7 h
 let μm : Act -> World -> Nat := fun a' w' => Classical.epsilon fun n => Inv n a' w' /\ ∀ k, Inv k a' w' -> n <= k
 have hμ : ∀ a' w', (∃ n, Inv n a' w') -> Inv (μm a' w') a' w' /\ ∀ k, Inv k a' w' -> μm a' w' <= k := fun a' w' h => Classical.epsilon_spec (hch a' w' h);refine Z243 (fun a' w' => ∃ n, Inv n a' w') μm ⟨_, F, μ, s, Post.refl _ _ _ _, .refl _ _ _, h1, h0, rfl⟩ fun a' w' hI => ?_;obtain ⟨⟨F', μ', s', p1, p2, p3, p5, p6⟩, -⟩ := hμ a' w' hI;refine Z1us ((round s' p5).out F' μ' a' w' p3) fun e a2 w2 hp => ?_;have := hp.trans p1 p2;refine this.thenA fun F2 μ2 s2 q1 q2 q3 q5 => ?_;have hi2 : Inv (ms s2) a2 w2 := ⟨F2, μ2, s2, q1, q2, q3, q5.1, rfl⟩;exact ⟨⟨_, hi2⟩, by have := (hμ a2 w2 ⟨_, hi2⟩).2 _ hi2; have := q5.2; omega⟩
end
end Go.Abs
